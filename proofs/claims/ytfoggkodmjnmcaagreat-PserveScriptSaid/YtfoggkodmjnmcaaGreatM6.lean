/-
  Proved: laws on the way to 'PserveScriptProof' (texts QcC QcD PvF PvH PvG PvI PvJ0 PvJ PvK PvL PvM PvN PvO0 PvO PvP PvQ XdK0 PvQ0 PvR1 QcE QaJ QaK QaL QaM QcF QaN QaO0 QaO QbX QbZ PuJ PuK PuL PuM PuN PuO PuP PuR QdA QdB QdC QdC1 QdF0 QdFa QdF QdG0 QdG QdG1 QdFb QdG2 QdG4 QdFc QdG5); no condition.
-/
import Derived.Test.YtfoggkodmjnmcaaGreatM5
import Derived.Deep.QuietTactic
import Derived.BigQuiet
import Derived.Deep.CutRange
import Derived.Deep.RegionLaw
set_option linter.unusedSimpArgs false
set_option linter.unusedVariables false
set_option maxHeartbeats 4000000
noncomputable section
namespace Go.Proofs
open Go.Dw Go.RowKit Go.Maps Go.Sort Go.Deep
set_option maxRecDepth 100000 in
theorem Tryz.zCc:prog.underlying 117=some (.map 3 122)∧prog.underlying 3=some (.int .i64):=⟨by kernel_rfl,by kernel_rfl⟩
set_option maxRecDepth 100000 in
theorem Tryz.zEs (w:World):(zeroValue 122).run prog w= .ok (.agg #[.int .i64 0,.int .i64 0,.slice none 0 0]) w:=by
 obtain ⟨i,hi,i1,_⟩:=ybo PG;simp [zeroValue,typeInfo,hi,i1]
theorem Tryz.zFN {A:Nat→Prop} {w:World} {M:Nat} {n:Int} {tk:List (Int×bN)} (h:jN A w M n tk) (id:Int):
  (bY id tk=none→(Instr.lookup 117 (.map (some M)) (.int .i64 id) true).run prog w= .ok (.tuple #[.agg #[.int .i64 0,.int .i64 0,.slice none 0 0],.bool false]) w)∧
  ∀ t,bY id tk=some t→ ∃v,aX A w v t.sg∧(Instr.lookup 117 (.map (some M)) (.int .i64 id) true).run prog w= .ok (.tuple #[.agg #[.int .i64 id,.int .i64 t.ct,v],.bool true]) w:=by
 obtain ⟨arr,clock,h3,⟨hwf,_⟩,hv⟩:=h.map;obtain ⟨hu,hkt⟩:=zCc;have vw:Ez w (.map (some M)) arr:= .inr ⟨M,clock,rfl,h3⟩;rcases xV (kk:= .i64) (n:=id) arr.toList 0 hwf.keys with ⟨e1,e2⟩|⟨p,e,e1,e2,e3⟩
 ·refine ⟨fun _=>MO hu hkt (.inl ⟨_,rfl⟩) vw e1 (zEs w),fun t ht=> ?_⟩;obtain ⟨v,h1,_⟩:=(hv id).2 t ht;rw [xW e2] at h1;cases h1
 ·have hm:=rU hwf (ya5 e2) e3;refine ⟨fun hn=> ?_,fun t ht=> ?_⟩
  ·rw [(hv id).1 hn] at hm;cases hm
  ·obtain ⟨v,h1,h2⟩:=(hv id).2 t ht;rw [h1] at hm;refine ⟨v,h2,?_⟩;rw [yaC hm];exact ML hu hkt (.inl ⟨_,rfl⟩) vw e1
section
variable {A:Nat→Prop} {w:World} {S P L Bs B M N:Nat} {r:Tryz.Rg} {s:Tryz.PS} {g:Nat→Int}
set_option maxRecDepth 100000 in
theorem Tryz.zvb (h:PW A w S P L Bs B M N r s g) (hlen: ∀e∈s.tk,e.2.sg.length≤1000000) (id:Int):
    Calls prog 45 #[.pointer (some ⟨S,0,none⟩),.int .i64 id] w fun e w'=> ∃u,e= .returned (.tuple #[u,.bool (bY id s.tk).isSome])∧bG w' w.heap.size u (yx s id)∧Below w.heap.size w w':=by
  have hm:=Ag h;obtain ⟨sv,ho,hsv⟩:=h.obj;have c13:=jK ho (i:=13) rfl;obtain ⟨l1,l2⟩:=zFN h.tk id;have hba:=fun (v:Value) (x y:Int)=>(yah w.heap.size w).alloc (yab _) (Obj.cells #[.int .i64 x,.int .i64 y,v] 122);unfold yx;clear ho;cases hg:bY id s.tk with
  | none=>
    have hlk:=l1 hg;have kb:=Cl.new w #[.int .i64 0,.int .i64 0,.slice none 0 0] 122;have z2:=kb.cell 2 _ rfl;have hcl:=GD (w:=w.alloc (Obj.cells #[.int .i64 0,.int .i64 0,.slice none 0 0] 122)) (v:= .slice none 0 0) (l:= []) (A:=fun _=>False) aX.none (by simp);have hb0:=hba (.slice none 0 0) 0 0;clear l1 l2 hba;go_enter func45,ntmps45;go_wp2_with (first
      | (go_at_call 56;refine hm.mono ?_;rintro e w' ⟨rfl,hw⟩;have hw:=hw.symm;subst hw)
      | (go_at_call 57;refine hcl.mono ?_;rintro e w2 ⟨u,rfl,hu,hb2⟩)
      | go_in)
    go_ret2;exact ⟨u,rfl,hu.mono (by simp),hb0.trans (hb2.mono (by simp))⟩
  | some t=>
    obtain ⟨v,hv,hlk⟩:=l2 t hg;obtain ⟨sa,c,rfl,hok,hr⟩:=hv;have hln:=hlen _ (qJ hg);have kb:=Cl.new w #[.int .i64 id,.int .i64 t.ct,.slice sa t.sg.length c] 122;have z2:=kb.cell 2 _ rfl;have hb0:=hba (.slice sa t.sg.length c) id t.ct;have hcl:=GD (w:=w.alloc (Obj.cells #[.int .i64 id,.int .i64 t.ct,.slice sa t.sg.length c] 122)) (v:= .slice sa t.sg.length c) (aX.below ⟨sa,c,rfl,hok,hr⟩ hb0) hln;clear l1 l2 hba hln;go_enter func45,ntmps45;go_wp2_with (first
      | (go_at_call 56;refine hm.mono ?_;rintro e w' ⟨rfl,hw⟩;have hw:=hw.symm;subst hw)
      | (go_at_call 57;refine hcl.mono ?_;rintro e w2 ⟨u,rfl,hu,hb2⟩)
      | go_in)
    go_ret2;exact ⟨u,rfl,hu.mono (by simp),hb0.trans (hb2.mono (by simp))⟩
set_option maxRecDepth 100000 in
theorem Tryz.zu8 (h:PW A w S P L Bs B M N r s g) (hd:(s.ph≠0∨s.br=true)→s.dn=false) (hln:s.sg.length≤1000000):
    Calls prog 14 #[.pointer (some ⟨S,0,none⟩)] w fun e w'=> ∃u,e= .returned (.tuple #[.agg #[.int .i64 s.out.op,.bool s.out.nn,.int .i64 s.out.hd,u,.int .u32 s.out.wr,.bool s.out.it],.bool s.has])∧bG w' w.heap.size u s.out.sg∧Below w.heap.size w w':=by
  by_cases hdn:s.ph=0∧s.dn=true
  · have e1:s.out=s:=by unfold PS.out;rw [yaj hdn]
    have e2:s.has=true:=by unfold PS.has;rw [hdn.1,hdn.2];rfl
    rw [e1,e2];refine zyi h hdn.1 ?_ hdn.2 hln;cases q:s.br with
    | false=>rfl
    | true=>rw [hd (.inr q)] at hdn;cases hdn.2
  · have e1:s.out= { s with op:=0,nn:=false,hd:=0,sg:= [],wr:=0,it:=false }:=by unfold PS.out;rw [yai hdn]
    have e2:s.has=false:=by
      unfold PS.has;cases q:s.dn with
      | false=>simp
      | true=>simp only [Bool.and_true,yas];exact fun e=>hdn ⟨e,q⟩
    rw [e1,e2];refine yaq (show Calls _ _ _ _ fun e w'=>e= .returned (.tuple #[.agg #[.int .i64 0,.bool false,.int .i64 0,.slice none 0 0,.int .u32 0,.bool false],.bool false])∧Below w.heap.size w w' from ?_) fun e w' hh=>⟨_,hh.1,bG.nil _ _,hh.2⟩;have hbx:=(yah w.heap.size w).alloc (yab _) (Obj.cells #[.int .i64 0,.bool false,.int .i64 0,.slice none 0 0,.int .u32 0,.bool false] 50);have k2:=Cl.new w #[.int .i64 0,.bool false,.int .i64 0,.slice none 0 0,.int .u32 0,.bool false] 50;have hm:=Ag (h.below hbx);have hbz:=H8 (h.below hbx);obtain ⟨sv,ho,hsv⟩:=h.obj;have kR:=jK ho (i:=22) rfl;have y22:=(hbx.cell (p:=⟨S,22,none⟩) h.zM).trans kR;clear ho;by_cases hp:s.ph=0
    · have hdf:s.dn=false:=by
        cases q:s.dn with
        | false=>rfl
        | true=>exact absurd ⟨hp,q⟩ hdn
      rw [hdf] at y22;rw [hp] at hbz;clear hdf hdn hd kR;go_enter func14,ntmps14;go_wp2_with (first
        | (go_at_call 56;refine hm.mono ?_;rintro e w' ⟨rfl,hw⟩;have hw:=hw.symm;subst hw)
        | (go_at_call 26;refine hbz.mono ?_;rintro e w' ⟨rfl,hw⟩;have hw:=hw.symm;subst hw)
        | go_in)
      refine yaP (iq rfl _ _ w.heap.size [.int .i64 0,.bool false,.int .i64 0,.slice none 0 0,.int .u32 0,.bool false] _ rfl (fun j y hy=>by rw [yau];exact k2.cell j y hy) underlying50 rfl (by kernel_rfl)) rfl ?_;exact ⟨rfl,hbx⟩
    · rw [yaG hp] at hbz;clear hdn hd hp;go_enter func14,ntmps14;go_wp2_with (first
        | (go_at_call 56;refine hm.mono ?_;rintro e w' ⟨rfl,hw⟩;have hw:=hw.symm;subst hw)
        | (go_at_call 26;refine hbz.mono ?_;rintro e w' ⟨rfl,hw⟩;have hw:=hw.symm;subst hw)
        | go_in)
      refine yaP (iq rfl _ _ w.heap.size [.int .i64 0,.bool false,.int .i64 0,.slice none 0 0,.int .u32 0,.bool false] _ rfl (fun j y hy=>by rw [yau];exact k2.cell j y hy) underlying50 rfl (by kernel_rfl)) rfl ?_;exact ⟨rfl,hbx⟩
end
end Go.Proofs
namespace Go.Proofs
open Go.Dw Go.RowKit Go.Maps Go.Sort Go.Deep
def Tryz.jD (x:Int):List Int→Nat
 | [] => 0
 | y::r=>if y<x then jD x r+1 else 0
theorem Tryz.zsQ (x:Int): ∀l:List Int,jD x l≤l.length
 | [] => yab _
 | y::r=>by
  unfold jD;split
  ·have:=zsQ x r;simp only [ya6];omega
  ·exact yaE _
theorem Tryz.zsP {x:Int}: ∀ {l:List Int} {k:Nat} (h:k<jD x l) (hl:k<l.length),l[k]<x
 | [], _,_,hl=>by simp at hl
 | y::r,0,h,_=>by
  unfold jD at h;split at h
  ·assumption
  ·omega
 | y::r,k+1,h,hl=>by
  unfold jD at h;split at h
  ·simpa using zsP (l:=r) (k:=k) (by omega) (by simpa using hl)
  ·omega
theorem Tryz.zsR {x:Int}: ∀ {l:List Int} (hl:jD x l<l.length),¬l[jD x l]<x
 | [], hl=>by simp at hl
 | y::r,hl=>by
  by_cases h:y<x
  ·have e:jD x (y::r)=jD x r+1:=by
    show (if y<x then jD x r+1 else 0)=_;rw [yaj h]
   simp only [e,ybB];exact zsR (l:=r) (by rw [e] at hl;simpa using hl)
  ·have e:jD x (y::r)=0:=by
    show (if y<x then jD x r+1 else 0)=_;rw [yai h]
   simp only [e,yc6];exact h
def Tryz.mP (x:Int) (l:List Int):List Int:=l.take (jD x l)++(x::l.drop (jD x l))
theorem Tryz.zoV (x:Int) (l:List Int):(mP x l).Perm (x::l):=by
 unfold mP;refine List.perm_middle.trans ?_;rw [ybH]
theorem Tryz.Yc {x:Int}: ∀ {l:List Int},l.Pairwise (fun a b=>a≤b)→(mP x l).Pairwise fun a b=>a≤b
 | [], _=>by simp [mP,jD]
 | y::r,h=>by
  by_cases hy:y<x
  ·have e:mP x (y::r)=y::mP x r:=by
    unfold mP;show (y::r).take (if y<x then jD x r+1 else 0)++(x::(y::r).drop (if y<x then jD x r+1 else 0))=_;rw [yaj hy];rfl
   rw [e,ya9];rw [ya9] at h;refine ⟨fun b hb=> ?_,Yc h.2⟩;rcases yad.1 ((zoV x r).subset hb) with q|q
   ·rw [q];exact Int.le_of_lt hy
   ·exact h.1 b q
  ·have e:mP x (y::r)=x::y::r:=by
    unfold mP;show (y::r).take (if y<x then jD x r+1 else 0)++(x::(y::r).drop (if y<x then jD x r+1 else 0))=_;rw [yai hy];rfl
   rw [e,ya9];refine ⟨fun b hb=> ?_,h⟩;rw [ya9] at h;rcases yad.1 hb with q|q
   ·rw [q];omega
   ·have:=h.1 b q;omega
def Tryz.nO (tk:List (Int×bN)):List Int:=tk.foldl (fun l e=>mP e.1 l) []
theorem Tryz.zpZ (tk:List (Int×bN)) (e:Int×bN):nO (tk++ [e])=mP e.1 (nO tk):=by simp [nO]
theorem Tryz.zpY {tk:List (Int×bN)} {k:Nat} (hk:k<tk.length):nO (tk.take (k+1))=mP tk[k].1 (nO (tk.take k)):=by
 rw [ybp hk,zpZ]
theorem Tryz.Na: ∀(tk:List (Int×bN)) (l:List Int),(tk.foldl (fun l e=>mP e.1 l) l).Perm (tk.map (·.1)++l)
 | [], l=>yck _
 | e::r,l=>by
  refine (Na r (mP e.1 l)).trans ?_;refine (List.Perm.append_left _ (zoV e.1 l)).trans ?_;simp
theorem Tryz.VB: ∀(tk:List (Int×bN)) {l:List Int},l.Pairwise (fun a b=>a≤b)→(tk.foldl (fun l e=>mP e.1 l) l).Pairwise fun a b=>a≤b
 | [], _,h=>h
 | _::r,_,h=>VB r (Yc h)
theorem Tryz.XR (tk:List (Int×bN)):(nO tk).length=tk.length:=by
 have:=(Na tk []).length_eq;simpa [nO] using this
theorem Tryz.Oc (s:PS):nO s.tk=oJ s:=by
 unfold oJ;have h1:(s.tk.map (·.1)).Perm (nO s.tk):=by simpa [nO] using (Na s.tk []).symm
 rw [mergeSort_of_perm_i h1];refine (List.mergeSort_of_pairwise ?_).symm;exact (VB s.tk List.Pairwise.nil).imp fun h=>by simpa [leI] using h
theorem Tryz.zrm (g:Nat→Int) (a:Nat): ∀k,ax g a (k+1)=g a+256*ax g (a+1) k
 | 0=>by simp [ax]
 | k+1=>by
  have ih:=zrm g a k;rw [show ax g a (k+1+1)=ax g a (k+1)+g (a+(k+1))*256^(k+1) from rfl,ih,
   show ax g (a+1) (k+1)=ax g (a+1) k+g (a+1+k)*256^k from rfl,show a+(k+1)=a+1+k by omega]
  rw [yc9,Int.mul_add,Int.add_assoc];congr 2;rw [←Int.mul_assoc,ydr _ 256]
set_option maxRecDepth 100000 in
theorem Tryz.Ib {g:Nat→Int} (hg: ∀j,0≤g j∧g j<256) (a X o c off n:Nat) (w:World) (h:w.rangeAt X o (row g a 16)) (hn:off+n≤16) (h8:1≤n∧n≤8):
  Calls prog 62 #[.slice (some ⟨X,o,none⟩) 16 c,.int .i64 off,.int .i64 n] w fun e w'=>e= .returned (.int .u64 (ax g (a+off) n))∧w'=w:=by
 obtain ⟨m0,rfl⟩: ∃m0,n=m0+1:=⟨n-1,by omega⟩;have hn1:IntKind.wrap .i64 (((m0+1:Nat):Int)-1)=m0:=by rw [gy (by omega) (by omega)];omega
 have hcell: ∀i,i<m0+1→w.cell? ⟨X,o+(off+i),none⟩=some (.int .u8 (g (a+off+i))):=fun i hi=>by
  have:=h (off+i) (.int .u8 (g (a+(off+i)))) (by unfold row;rw [ybb,ybY (by omega)];rfl);rw [this,ybf]
 go_enter func62,ntmps62;go_wp2_with fail;go_loopw [7,8] (fun v i wr=>wr=w∧((i= .int .i64 (-1)∧v= .int .u64 (ax g (a+off) (m0+1)))∨ ∃m:Nat,m≤m0∧i= .int .i64 m∧v= .int .u64 (ax g (a+off+(m+1)) (m0-m)))) (fun _ i _=>(RowKit.intOf i+1).toNat)
 case atStart=>exact ⟨rfl,.inr ⟨m0,yab _,rfl,by rw [yb8];rfl⟩⟩
 case round=>
  obtain ⟨rfl,⟨rfl,rfl⟩|⟨m,hm,rfl,rfl⟩⟩:=hrel
  ·go_wp2_with fail;go_ret;exact ⟨rfl,rfl⟩
  ·have hc:=hcell m (by omega);have hgb:=hg (a+off+m);have hwb:=lg g hg (a+off+(m+1)) (m0-m);have hpw:(256:Int)^(m0-m)≤256^7:=by
    exact_mod_cast ybx (by decide) (by omega:m0-m≤7)
   have h7:(256:Int)^7=72057594037927936:=by decide
   have hnext:ax g (a+off+m) (m0-m+1)=g (a+off+m)+256*ax g (a+off+(m+1)) (m0-m):=zrm g (a+off+m) (m0-m);generalize ax g (a+off+(m+1)) (m0-m)=V at hwb hnext ⊢;generalize hB:g (a+off+m)=Bt at hc hgb hnext;have e1:IntKind.wrap .u64 (256*V)=256*V:=cZ (by omega) (by omega);have e2:IntKind.wrap .u64 (256*V+Bt)=256*V+Bt:=cZ (by omega) (by omega);have e3:IntKind.wrap .u64 Bt=Bt:=cZ (by omega) (by omega);have e4:IntKind.wrap .i64 ((off:Int)+(m:Int))=((off+m:Nat):Int):=by rw [gy (by omega) (by omega)];omega
   by_cases hm0:m=0
   ·have e5:IntKind.wrap .i64 ((m:Int)-1)= -1:=by rw [gy (by omega) (by omega)];omega
    have hz:(fun _:Unit=>m)=fun _=>0:=by rw [hm0]
    clear hm0;go_wp2_with fail;have hm0:m=0:=ybu hz ();refine ⟨⟨trivial,.inl ⟨rfl,?_⟩⟩,?_⟩
    ·have:ax g (a+off) (m0+1)=Bt+256*V:=by rw [←hnext,hm0];rfl
     rw [this,Int.add_comm]
    ·simp only [RowKit.intOf];omega
   ·have e5:IntKind.wrap .i64 ((m:Int)-1)=((m-1:Nat):Int):=by rw [gy (by omega) (by omega)];omega
    have hpos:1≤m:=by omega
    clear hm0;go_wp2_with fail;refine ⟨⟨trivial,.inr ⟨m-1,by omega,rfl,?_⟩⟩,?_⟩
    ·rw [show m-1+1=m by omega,show m0-(m-1)=m0-m+1 by omega,hnext,Int.add_comm]
    ·simp only [RowKit.intOf];omega
end Go.Proofs
namespace Go.Proofs
open Go.Dw Go.RowKit Go.Maps Go.Sort
section
variable {σ:Type} {O:Tryz.Ob σ} {X:Nat→Prop} {bX:Nat} {ρ:Val} {w0:World} {K:Nat→Prop} {b2:Nat} {sk:Nat→σ} {rows ap:Nat→List Tryz.oU}
end
end Go.Proofs
namespace Go.Proofs
open Go.Dw Go.RowKit Go.Maps Go.Sort
section
variable {σ:Type} {O:Tryz.Ob σ} {X:Nat→Prop} {bX:Nat} {ρ:Val} {w0:World} {K:Nat→Prop} {b2:Nat} {sk:Nat→σ} {rows:Nat→List Tryz.oU} {f:FuncId} {args:List AV} {res:AV} {k k':Nat}
end
section
variable {ρ:Val} {w0:World} {K:Nat→Prop} {X:Nat→Prop} {bX:Nat} {S P L Bs B M N:Nat} {r:Tryz.Rg} {b2:Nat} {sk:Nat→Tryz.PS×(Nat→Int)} {rows:Nat→List Tryz.oU} {k k' q:Nat}
end
end Go.Proofs
namespace Go.Proofs
open Go.Dw Go.RowKit Go.Maps Go.Sort
structure Tryz.TpV where
 r:Rg
 nl:Int
 nh:Int
 i:Int
 nb:Int
 spare:Int
 na:Int
 nw:Bool
 na2:Int
 nw2:Bool
 need:Int
 la:Int
 ll:Int
 lw:Bool
 good:Bool
 mem:Value
 sv:Value
 srv:Value
 abK:Value
 hds:Value
 cts:Value
 wrs:Value
 ord:Value
 giv:Value
 usd:Value
section
variable {ρ:Val} {m:Tryz.TpV}
end
section
variable {W0:World} {H4 X13 JH X16 S P L Bs B M:Nat} {r:Tryz.Rg} {av ov gv:Value} {ls:List (List Tryz.Sg)} {s:Tryz.PS×(Nat→Int)} {bs:List (List Tryz.Sg)} {spare:Int} {vh vc vb:Value} {i:Nat} {a:Act} {w:World}
end
end Go.Proofs
namespace Go.Proofs
open Go.Dw Go.RowKit Go.Maps Go.Sort
section
variable {W0:World} {H4 X13 JH X16 S P L Bs B M:Nat} {r:Tryz.Rg} {av ov gv:Value} {ls:List (List Tryz.Sg)} {s:Tryz.PS×(Nat→Int)} {bs:List (List Tryz.Sg)} {spare:Int} {vh vc vb:Value} {i:Nat} {a:Act} {w:World}
end
end Go.Proofs
namespace Go.Proofs
open Go.Dw Go.RowKit Go.Maps Go.Sort Go.Deep
set_option maxRecDepth 100000 in
theorem Tryz.VH {g:Nat→Int} (hg: ∀j,0≤g j∧g j<256) (a X o c:Nat) (w:World) (h:w.rangeAt X o (row g a 16)):
    Calls prog 18 #[.slice (some ⟨X,o,none⟩) 16 c] w fun e w'=>e= .returned (.tuple #[DT g a,.int .i64 0])∧Below w.heap.size w w':=by
  have hX:X<w.heap.size:=World.block_lt_of_cell? w _ (h 0 (.int .u8 (g (a+0))) (by unfold row;rw [ybb,ybY (by omega)];rfl));have hk: ∀w1,Below w.heap.size w w1→w1.rangeAt X o (row g a 16):=fun w1 hb=>iR h (hb.block X hX);have q0:=fun w1 hb=>Ib hg a X o c 0 8 w1 (hk w1 hb) (by omega) (by omega);have q1:=fun w1 hb=>Ib hg a X o c 8 4 w1 (hk w1 hb) (by omega) (by omega);have q2:=fun w1 hb=>Ib hg a X o c 12 2 w1 (hk w1 hb) (by omega) (by omega);have q3:=fun w1 hb=>Ib hg a X o c 14 2 w1 (hk w1 hb) (by omega) (by omega);have b1:=lg g hg (a+8) 4;have b2:=lg g hg (a+12) 2;have b3:=lg g hg (a+14) 2;have p4:(256:Int)^4=4294967296:=by decide
  have p2:(256:Int)^2=65536:=by decide
  have e1:IntKind.wrap .u32 (ax g (a+8) 4)=ax g (a+8) 4:=Py (by omega) (by omega);have e2:IntKind.wrap .u16 (ax g (a+12) 2)=ax g (a+12) 2:=yE (by omega) (by omega);have e3:IntKind.wrap .u16 (ax g (a+14) 2)=ax g (a+14) 2:=yE (by omega) (by omega);simp only [ybk,ybG,Int.natCast_zero] at q0 q1 q2 q3;unfold DT;generalize ax g a 8=W0 at q0 ⊢;generalize ax g (a+8) 4=W1 at q1 e1 ⊢;generalize ax g (a+12) 2=W2 at q2 e2 ⊢;generalize ax g (a+14) 2=W3 at q3 e3 ⊢;clear b1 b2 b3 p4 p2;have hA:=(yah w.heap.size w).alloc (yab _);go_enter func18,ntmps18;go_wp2_with (first
    | (go_at_call_has 62 (Value.int IntKind.i64 0);refine (q0 _ (hA _)).mono ?_;rintro e w' ⟨rfl,hw⟩;have hw:=hw.symm;subst hw)
    | (go_at_call_has 62 (Value.int IntKind.i64 4);refine (q1 _ (hA _)).mono ?_;rintro e w' ⟨rfl,hw⟩;have hw:=hw.symm;subst hw)
    | (go_at_call_has 62 (Value.int IntKind.i64 12);refine (q2 _ (hA _)).mono ?_;rintro e w' ⟨rfl,hw⟩;have hw:=hw.symm;subst hw)
    | (go_at_call_has 62 (Value.int IntKind.i64 14);refine (q3 _ (hA _)).mono ?_;rintro e w' ⟨rfl,hw⟩;have hw:=hw.symm;subst hw)
    | go_in)
  refine yaP (iq rfl _ _ w.heap.size [.int .u64 W0,.int .u32 W1,.int .u16 W2,.int .u16 W3] _ rfl (fun j v hv=>by rw [yau];exact (Cl.new w _ _).cell j v hv) underlying60 rfl (by kernel_rfl)) rfl ?_;exact ⟨rfl,hA _⟩
end Go.Proofs
namespace Go.Proofs
open Go.Dw Go.RowKit Go.Maps Go.Sort
section
variable {ρ:Val} {w0:World} {K:Nat→Prop} {X:Nat→Prop} {bX:Nat} {S P L Bs B M N:Nat} {r:Tryz.Rg} {b2:Nat} {sk:Nat→Tryz.PS×(Nat→Int)} {rows:Nat→List Tryz.oU} {k k' q:Nat}
end
end Go.Proofs
namespace Go.Proofs
theorem Tryz.Og {n:Nat} (l:List Value) (h:l.length=n):(⟨l⟩:Array Value)=((List.range n).map fun i=>(⟨l⟩:Array Value).getD i undef).toArray:=by
 refine ycY ?_;refine ydp fun i=> ?_;simp only [ybb];by_cases hi:i<n
 ·rw [yao (by omega:i<l.length),ybY hi];simp [yay,h,hi]
 ·rw [ya1 (by omega),ya1 (by simp;omega)];rfl
open Go.Dw Go.RowKit Go.Maps Go.Sort Go.Deep
theorem Tryz.ztR {P0:Program} {w:World} {ops:Array Oper} {o:Oper} {a:Act} {K:Act→World→Prop} {Q:Exit→Act→World→Prop} {E:Prop} (hgd:o.guard=none) (s x:Operand) (t:TypeId)
  (ho:o.op= .call { callee:= .builtin .append,args:= #[s,x],argTypes:= #[t,t] }) (v vx:Value) (hs:a.eval s=v) (hx:a.eval x=vx) {v':Value} {w':World}
  (hr:(Builtin.append_ #[t,t] o.type #[v,vx]).run P0 w= .ok v' w') (h:K (a.put o.dst v') w'):
  if Region.wanted o (yielded ops a.tmps)=true then Oper.wp P0 o a w K Q else E:=by
 have hw:Region.wanted o (yielded ops a.tmps)=true:=by simp [Region.wanted,hgd]
 rw [yaj hw];unfold Oper.wp execOp;simp only [ho,resolve,invoke,builtin,yaf,yak,yaa,List.map_toArray,yaJ,yaZ,hs,hx,hr];exact h
theorem Tryz.aA.take {t:TypeId} {sz n c:Nat} {w:World} {b2:Nat} {sa:Option Addr} {cs:List Value} (h:aA t sz w b2 (.slice sa n c) n cs) {k:Nat} (hk:k≤n) (hn:0<n):aA t sz w b2 (.slice sa k c) k (cs.take (k*sz)):=by
 obtain ⟨h1,h2⟩:=h;rcases h2 with ⟨h2,h3⟩|⟨g,cap,cur,e,h3,h4,h5,h6,h7,h8⟩
 ·omega
 ·cases e;refine ⟨by rw [ybD,h1];exact ycJ (ybc _ hk),.inr ⟨g,c,cur,rfl,h3,h4,by omega,h6,h7,?_⟩⟩;rw [←h8,List.take_take,ycJ (ybc _ hk)]
theorem Tryz.O6 (w:World) (t:TypeId) (x:Value):((w.alloc (Obj.cells #[x] t)).drew).ownsRow w.heap.size t 1 (.slice (some ⟨w.heap.size,0,none⟩) 1 1) 1 [x]:=
 ⟨rfl,.inr ⟨_,1,_,rfl,yab _,ydh w _,yab _,by unfold maxLen;decide,rfl,rfl⟩⟩
structure Tryz.ED (w wr:World) (G cl:Nat) (tl:TypeId) (l:List Int):Prop where
 own:aA tl 1 wr w.heap.size (.slice (some ⟨G,0,none⟩) l.length cl) l.length (dx l)
 dH:wr.rangeAt G 0 (dx l)
 lo:w.heap.size≤G
 hi:G<wr.heap.size
 cap:l.length≤cl
 ne:0<l.length
set_option maxRecDepth 100000 in
theorem Tryz.zDA (w:World) (x:Value) {t:TypeId}:(Builtin.append_ #[37,37] 37 #[.slice (some ⟨w.heap.size,0,none⟩) 1 1,.slice none 0 0]).run prog ((w.alloc (Obj.cells #[x] t)).drew)= .ok (.slice (some ⟨w.heap.size,0,none⟩) 1 1) ((w.alloc (Obj.cells #[x] t)).drew):=by
 obtain ⟨i0,hi0,j1,j2,j3⟩:=ybo Vu;have hU:prog.underlying 37=some (.slice 3):=by kernel_rfl
 simp [Builtin.append_,run_underlying hU,sizeOf,typeInfo,hi0,Builtin.lenOf,Builtin.firstCells,storeCells]
set_option maxRecDepth 100000 in
theorem Tryz.znd {A:Nat→Prop} {w:World} {S P L Bs B N b2:Nat} {r:Rg} {s:PS} {g:Nat→Int} {lv:Value} (h:RW A w S P L Bs B N b2 r s g lv) (hl:s.tk.length≤100000):
    Calls prog 49 #[.pointer (some ⟨S,0,none⟩)] w fun e w'=> ∃(v:Value) (t:TypeId),e= .returned v∧aA t 1 w' w.heap.size v s.tk.length (dx (nO s.tk))∧Below w.heap.size w w':=by
  obtain ⟨sv,ct,vs,q1,q2,q3,q4⟩:=h.obj;have c13:=q1.cell 13 _ rfl;obtain ⟨q5,⟨ty,hrow⟩,q6⟩:=q3;obtain ⟨sa,c,hlv,rE⟩:=aA.row hrow;rw [hlv] at c13;have hcell: ∀(j:Nat) (hj:j<s.tk.length),∃G,sa=some ⟨G,0,none⟩∧G<w.heap.size∧w.cell? ⟨G,j*3,none⟩=some (.int .i64 s.tk[j].1):=fun j hj=>by
    rcases rE with hr|⟨G,hsa,lJ,hr⟩
    · have:=yaI List.length hr;rw [rO s.tk vs q5] at this;simp only [ybO] at this;omega
    · refine ⟨G,hsa,(hrow.lt G lJ).2,?_⟩;have e1:=hr _ _ (zV s.tk vs q5 j hj).1;rw [yau] at e1;exact e1
  have hS:=q1.lt;obtain ⟨Sz,hSz⟩: ∃n,n=s.tk.length:=⟨_,rfl⟩;clear q2 q4 q6 rE hrow;have zl:True:=trivial;clear hS hSz;go_enter func49,ntmps49;go_wp2_with fail;go_loopw [3,4] (fun v y wr=> ∃(i:Nat) (l:List Int) (t:TypeId),i≤s.tk.length∧y= .int .i64 i∧l.length=i∧aA t 1 wr w.heap.size v l.length (dx l)∧l=nO (s.tk.take i)∧(l= []→v= .slice none 0 0)∧Below w.heap.size w wr) (fun _ y _=>s.tk.length-(RowKit.intOf y).toNat)
  case atStart=>exact ⟨0,[],3,yaE _,rfl,rfl,aA.nil _ _ _ _,by simp [nO],fun _=>rfl,yah _ _⟩
  case round=>
    obtain ⟨i,l,tl,hi,rfl,hll,hown,hlr,hnil,hb⟩:=hrel;subst hll;have y13:=(hb.cell (p:=⟨S,13,none⟩) q1.lt).trans c13;by_cases hil:l.length<s.tk.length
    · have Rj:(l.length:Int)<s.tk.length:=by omega
      obtain ⟨Gk,hsa,qZ,KL⟩:=hcell l.length hil;have Q8:=(hb.cell (p:=⟨Gk,l.length*3,none⟩) qZ).trans KL;have BP:=zpY hil;rw [←hlr] at BP;obtain ⟨x,hx⟩: ∃x,x=s.tk[l.length].1:=⟨_,rfl⟩;rw [←hx] at KL Q8 BP;rw [hsa] at y13;obtain ⟨sl,cl,rfl,hrl⟩:=aA.row hown;clear hlr hx;go_wp2_with fail;go_loopw [5] (fun z wq=> ∃k:Nat,k≤jD x l∧z= .int .i64 k∧aA tl 1 wq w.heap.size (.slice sl l.length cl) l.length (dx l)∧Below w.heap.size w wq) (fun z _=>l.length-(RowKit.intOf z).toNat)
      case atStart=>exact ⟨0,yaE _,rfl,hown,hb⟩
      case round=>
        obtain ⟨k,hk,rfl,hown1,hb1⟩:=hrel;have CP:=(hb1.cell (p:=⟨S,13,none⟩) q1.lt).trans (hsa▸c13);have zk:=(hb1.cell (p:=⟨Gk,l.length*3,none⟩) qZ).trans KL;have hnl:=zsQ x l;have hii:(l.length:Int)<s.tk.length:=Rj;clear y13 Q8 c13 hcell;by_cases hkn:k<jD x l
        · have hkl:k<l.length:=by omega
          have hkl':(k:Int)<l.length:=by omega
          have hlt:=zsP hkn hkl;obtain ⟨_,c1,e1,hr1⟩:=aA.row hown1;cases e1;rcases hr1 with hr1|⟨G,rfl,lJ,hr1⟩
          · have:=yaI List.length hr1;simp [dx] at this;exact absurd this (by intro q;rw [q] at hkl;simp at hkl)
          have hcl:=aA.cap hown1 (by omega);have Q9:wr.cell? ⟨G,k,none⟩=some (.int .i64 l[k]):=by
            have:=hr1 k (.int .i64 l[k]) (by simp [dx,hkl])
            rwa [yau] at this
          generalize hy:l[k]=y at Q9 hlt;clear hy hr1 BP;go_wp2_with fail;go_quiet (fail);go_wp2;exact ⟨⟨k+1,by omega,by push_cast;rfl,hown1.kept fun _ _=>rfl,below_drewN hb1 _⟩,by simp only [RowKit.intOf];omega⟩
        · have hke:k=jD x l:=by omega
          have hex:(k<l.length∧ ∃(G:Nat) (y:Int),sl=some ⟨G,0,none⟩∧wr.cell? ⟨G,k,none⟩=some (.int .i64 y)∧ ¬y<x)∨ ¬k<l.length:=by
            by_cases hkl:k<l.length
            · refine .inl ⟨hkl,?_⟩;obtain ⟨_,c1,e1,hr1⟩:=aA.row hown1;cases e1;rcases hr1 with hr1|⟨G,rfl,lJ,hr1⟩
              · have:=yaI List.length hr1;simp [dx] at this;exact absurd this (by intro q;rw [q] at hkl;simp at hkl)
              · refine ⟨G,l[k],rfl,?_,?_⟩
                · have:=hr1 k (.int .i64 l[k]) (by simp [dx,hkl])
                  rwa [yau] at this
                · subst hke;exact zsR hkl
            · exact .inr hkl
          have Fg:nO (s.tk.take (l.length+1))=l.take k++(x::l.drop k):=by rw [BP,hke];rfl
          clear hkn BP hke;have Ki:l≠ []→ ∃G,sl=some ⟨G,0,none⟩∧w.heap.size≤G∧G<wr.heap.size∧l.length≤cl∧wr.rangeAt G 0 (dx l):=fun hne=>by
            have hpos:0<l.length:=ybq.2 hne;have hcl:=aA.cap hown1 hpos;obtain ⟨_,c1,e1,hr1⟩:=aA.row hown1;cases e1;rcases hr1 with hr1|⟨G,rfl,lJ,hr1⟩
            · have:=yaI List.length hr1;simp [dx] at this;exact absurd this hne
            · exact ⟨G,rfl,(hown1.lt G lJ).1,(hown1.lt G lJ).2,hcl,hr1⟩
          obtain ⟨i0,hi0,j1,j2,j3⟩:=ybo Vu;have hU:prog.underlying 37=some (.slice 3):=by kernel_rfl
          have hone: ∀u∈dx l,u.oneCell'=true:=fun u hu=>by
            obtain ⟨x,_,rfl⟩:=ya2.1 hu;rfl
          have hSw:=q1.lt;by_cases hl0:l= []
          · have hv:=hnil hl0;have hkz:k=0:=by rw [hl0] at hnl hk;simp at hnl hk;omega
            subst hl0;subst hkz;cases hv;clear hex Ki hnil hone hnl;have hkl: ¬0<([]:List Int).length:=by simp
            go_wp2_with fail;go_quiet (fail);go_wp2_with fail;have dY:=below_drewN hb1 nq;have y13:(wr.drewN nq).cell? ⟨S,13,none⟩=_:=CP;have yk:(wr.drewN nq).cell? ⟨Gk,0,none⟩=_:=zk;generalize wr.drewN nq=w8 at dY y13 yk ⊢;have hrun:=zDA w8 (.int .i64 x) (t:=3);have hba:=(yah w8.heap.size w8).alloc (yab _) (Obj.cells #[.int .i64 x] 3);have hbb:=dY.trans (hba.mono dY.size);have wR:=(hba.cell (p:=⟨S,13,none⟩) (yae hSw dY.size)).trans y13;have ak:=(hba.cell (p:=⟨Gk,0,none⟩) (yae qZ dY.size)).trans yk;have hnew:=ydh w8 (Obj.cells #[.int .i64 x] 3);have rz:S<((w8.alloc (Obj.cells #[.int .i64 x] 3)).drew).heap.size:=yae hSw hbb.size;have rf:Gk<((w8.alloc (Obj.cells #[.int .i64 x] 3)).drew).heap.size:=yae qZ hbb.size;have hws:=dY.size;have hz0:(0:Int)<(s.tk.length:Int):=by
              have q:=hil;simp only [ybO] at q;omega
            have hz1:0<s.tk.length:=by omega
            have hz2: ¬s.tk= []:=fun q=>by rw [q] at hz1;simp at hz1
            have hz3:(0:Int)≤((0:Nat):Int):=by decide
            have hz4:((0:Nat):Int)<(s.tk.length:Int):=by omega
            go_region_held3 (fun w'=>w'.cell? ⟨S,13,none⟩=some (.slice (some ⟨Gk,0,none⟩) s.tk.length c)∧w'.cell? ⟨Gk,0,none⟩=some (.int .i64 x)) (go_keep)
              ((first
                | (refine ztR (by rfl) _ _ 37 (by rfl) _ _ (by rfl) (by rfl) hrun ?_)
                | (refine rT (P0:=prog) (by rfl) _ _ _ (by rfl) w.heap.size 3 3 i0 _ 1 8 hU hi0 j1 j2 j3 rfl (by decide) (.slice none 0 0) 0 [] (by rfl) (aA.nil _ _ _ _) (some ⟨w8.heap.size,0,none⟩) ⟨w8.heap.size,0,none⟩ rfl 1 1 [.int .i64 x] (by rfl) rfl
                     (fun j u hu=>by rw [Dw.addr_add,yau];cases j with|zero=>(cases hu;exact yc7 _ _ 0 _ _ (0,0) hnew)|succ j=>simp at hu) (fun u hu=>by rw [yaD.1 hu];rfl) (by unfold maxLen;decide) (by decide) (by simp;omega) ?_
                   intro v2 wb t2 hown2 hgrow2 wY;have hSb:=hgrow2.block S rz (fun e=>by cases e);have sP:=hgrow2.block Gk rf (fun e=>by cases e);have b13:=(yan (a:=⟨S,13,none⟩) hSb).trans wR;have bk:=(yan (a:=⟨Gk,0,none⟩) sP).trans ak)))
            all_goals (go_wp2_with fail)
            all_goals
              have hbw:Below w.heap.size w wb:=hbb.trans ⟨hgrow2.os,hgrow2.tape,hgrow2.output,hgrow2.size,fun b hb=>hgrow2.block b (by have:=hbb.size;simp at this ⊢;omega) (fun e=>by cases e)⟩;refine ⟨⟨1,[x],t2,Nat.succ_le_of_lt (by simpa using hil),rfl,rfl,?_,?_,(fun e=>by cases e),hbw⟩,by simp only [RowKit.intOf];simp at hil ⊢;omega⟩
              · unfold aA;simpa [dx] using hown2
              · simpa using Fg.symm
          · obtain ⟨G,rfl,hG1,hG2,hcl,ET⟩:=Ki hl0;have d1:(k:Int)≤(cl:Int):=by omega
            have d2:(l.length:Int)≤(cl:Int):=by omega
            have d3:(0:Int)≤(k:Int):=by omega
            have d4:(k:Int)≤(l.length:Int):=by omega
            have hd:ED w wr G cl tl l:=⟨hown1,ET,hG1,hG2,hcl,ybq.2 hl0⟩;clear hnil Ki hcl hG1 hG2 ET hl0 hone hown1;have aaG:(¬cl=k∧k<l.length∧ ∃(G':Nat) (y:Int),some (⟨G,0,none⟩:Addr)=some ⟨G',0,none⟩∧wr.cell? ⟨G',k,none⟩=some (.int .i64 y)∧ ¬y<x)∨(¬cl=k∧ ¬k<l.length)∨(k=l.length∧cl=l.length):=by
              have:=hd.cap;rcases hex with q|q
              · exact .inl ⟨by have:=q.1;omega,q⟩
              · by_cases hck:cl=k
                · exact .inr (.inr ⟨by omega,by omega⟩)
                · exact .inr (.inl ⟨hck,q⟩)
            clear hex;rcases aaG with ⟨hck,hkl,G',y,e,Q9,hlt⟩|⟨hck,hkl⟩|⟨rfl,rfl⟩
            · cases e;have hkl':(k:Int)<l.length:=by omega
              go_wp2_with fail;go_quiet (fail);go_wp2_with fail;have dY:=below_drewN hb1 nq;have y13:(wr.drewN nq).cell? ⟨S,13,none⟩=_:=CP;have yk:(wr.drewN nq).cell? ⟨Gk,l.length*3,none⟩=_:=zk;have fw:ED w (wr.drewN nq) G cl tl l:=⟨hd.own.kept fun _ _=>rfl,hd.dH,hd.lo,hd.hi,hd.cap,hd.ne⟩;generalize wr.drewN nq=w8 at dY y13 yk fw ⊢;have hba:=(yah w8.heap.size w8).alloc (yab _) (Obj.cells #[.int .i64 x] 3);have hbb:=dY.trans (hba.mono dY.size);have wR:=(hba.cell (p:=⟨S,13,none⟩) (yae hSw dY.size)).trans y13;have ak:=(hba.cell (p:=⟨Gk,l.length*3,none⟩) (yae qZ dY.size)).trans yk;have rz:S<((w8.alloc (Obj.cells #[.int .i64 x] 3)).drew).heap.size:=yae hSw hbb.size;have rf:Gk<((w8.alloc (Obj.cells #[.int .i64 x] 3)).drew).heap.size:=yae qZ hbb.size;have hws:=dY.size;have sQ:G<((w8.alloc (Obj.cells #[.int .i64 x] 3)).drew).heap.size:=yae fw.hi hba.size;have uZ:((w8.alloc (Obj.cells #[.int .i64 x] 3)).drew).rangeAt G 0 (dx l):=iR fw.dH (hba.block G fw.hi);have BQ:aA tl 1 ((w8.alloc (Obj.cells #[.int .i64 x] 3)).drew) w.heap.size (.slice (some ⟨G,0,none⟩) l.length cl) l.length (dx l):=fw.own.kept fun b e=>by cases e;exact hba.block G fw.hi
              have Bq:=O6 w8 3 (.int .i64 x);have hone: ∀u∈dx l,u.oneCell'=true:=fun u hu=>by
                obtain ⟨x,_,rfl⟩:=ya2.1 hu;rfl
              have xg:(dx l).length=l.length:=by simp [dx]
              have hdl:((dx l).drop k).length=(l.length-k)*1:=by rw [ycE,xg];omega
              go_region_held3 (fun w'=>w'.cell? ⟨S,13,none⟩=some (.slice (some ⟨Gk,0,none⟩) s.tk.length c)∧w'.cell? ⟨Gk,l.length*3,none⟩=some (.int .i64 x)) (go_keep)
                ((first
                  | (refine rT (P0:=prog) (by rfl) _ _ _ (by rfl) w8.heap.size 3 3 i0 _ 1 8 hU hi0 j1 j2 j3 rfl (by decide) (.slice (some ⟨w8.heap.size,0,none⟩) 1 1) 1 [.int .i64 x] (by rfl) Bq (some ⟨G,k,none⟩) ⟨G,k,none⟩ rfl (l.length-k) (cl-k) ((dx l).drop k) (by rfl) hdl
                       (fun j u hu=>by have:=XY uZ (k:=k) (c:=cl) (by rw [xg];exact fw.cap) j u hu;rwa [yai hck] at this) (fun u hu=>hone u (ybi hu)) (by unfold maxLen;omega) (by omega) (by simp) ?_
                     intro v1 wa t1 hown1 hgrow1 o8;have BD:=hgrow1.block S rz (fun e=>by simp [Value.ownBlock] at e;omega);have Bw:=hgrow1.block Gk rf (fun e=>by simp [Value.ownBlock] at e;omega);have Bv:=hgrow1.block G sQ (fun e=>by simp [Value.ownBlock] at e;have:=fw.hi;omega);have c13:=(yan (a:=⟨S,13,none⟩) BD).trans wR;have ck:=(yan (a:=⟨Gk,l.length*3,none⟩) Bw).trans ak;have hpre:=aA.take (BQ.kept (w':=wa) fun b e=>by cases e;exact Bv) (k:=k) (by omega) fw.ne;obtain ⟨sa1,c1,rfl,hr1⟩:=aA.row hown1;obtain ⟨G1,rfl,hr2⟩: ∃G1,sa1=some ⟨G1,0,none⟩∧wa.rangeAt G1 0 ([.int .i64 x]++(dx l).drop k):=by
                       rcases hr1 with q|⟨G1,q1,_,q2⟩
                       · cases q
                       · exact ⟨G1,q1,q2⟩
                     clear hr1)
                  | (refine rT (P0:=prog) (by rfl) _ _ _ (by rfl) w.heap.size 3 tl i0 _ 1 8 hU hi0 j1 j2 j3 rfl (by decide) (.slice (some ⟨G,0,none⟩) k cl) k ((dx l).take (k*1)) (by rfl) hpre (some ⟨G1,0,none⟩) ⟨G1,0,none⟩ rfl (1+(l.length-k)) c1 ([.int .i64 x]++(dx l).drop k) (by rfl) (by rw [yaX,hdl];simp)
                       (fun j u hu=>by rw [Dw.addr_add];exact hr2 j u hu) (fun u hu=>by rcases yaR.1 hu with q|q;(rw [yaD.1 q];rfl);exact hone u (ybi q)) (by unfold maxLen;omega) (by omega) (by have:=hgrow1.size;simp at this;omega) ?_
                     intro v2 wb t2 hown2 hgrow2 wY;have hSb:=hgrow2.block S (yae rz hgrow1.size) (fun e=>by simp [Value.ownBlock] at e;have:=fw.lo;omega);have sP:=hgrow2.block Gk (yae rf hgrow1.size) (fun e=>by simp [Value.ownBlock] at e;have:=fw.lo;omega);have b13:=(yan (a:=⟨S,13,none⟩) hSb).trans c13;have bk:=(yan (a:=⟨Gk,l.length*3,none⟩) sP).trans ck)))
              all_goals (go_wp2_with fail)
              all_goals
                have hbw:Below w.heap.size w wb:=(hbb.trans ⟨hgrow1.os,hgrow1.tape,hgrow1.output,hgrow1.size,fun b hb=>hgrow1.block b (by have:=hbb.size;simp at this ⊢;omega) (fun e=>by simp [Value.ownBlock] at e;omega)⟩).trans ⟨hgrow2.os,hgrow2.tape,hgrow2.output,hgrow2.size,fun b hb=>hgrow2.block b (by have:=hbb.size;have:=hgrow1.size;simp at*;omega) (fun e=>by simp [Value.ownBlock] at e;have:=fw.lo;omega)⟩;have hlen':(l.take k++x::l.drop k).length=k+(1+(l.length-k)):=by simp;omega
                refine ⟨⟨l.length+1,l.take k++x::l.drop k,t2,by omega,by push_cast;rfl,by rw [hlen'];omega,?_,Fg.symm,(fun e=>by simp at e),hbw⟩,by simp only [RowKit.intOf];omega⟩;rw [hlen'];unfold aA;simpa [dx] using hown2
            · go_wp2_with fail;go_quiet (fail);go_wp2_with fail;have dY:=below_drewN hb1 nq;have y13:(wr.drewN nq).cell? ⟨S,13,none⟩=_:=CP;have yk:(wr.drewN nq).cell? ⟨Gk,l.length*3,none⟩=_:=zk;have fw:ED w (wr.drewN nq) G cl tl l:=⟨hd.own.kept fun _ _=>rfl,hd.dH,hd.lo,hd.hi,hd.cap,hd.ne⟩;generalize wr.drewN nq=w8 at dY y13 yk fw ⊢;have hba:=(yah w8.heap.size w8).alloc (yab _) (Obj.cells #[.int .i64 x] 3);have hbb:=dY.trans (hba.mono dY.size);have wR:=(hba.cell (p:=⟨S,13,none⟩) (yae hSw dY.size)).trans y13;have ak:=(hba.cell (p:=⟨Gk,l.length*3,none⟩) (yae qZ dY.size)).trans yk;have rz:S<((w8.alloc (Obj.cells #[.int .i64 x] 3)).drew).heap.size:=yae hSw hbb.size;have rf:Gk<((w8.alloc (Obj.cells #[.int .i64 x] 3)).drew).heap.size:=yae qZ hbb.size;have hws:=dY.size;have sQ:G<((w8.alloc (Obj.cells #[.int .i64 x] 3)).drew).heap.size:=yae fw.hi hba.size;have uZ:((w8.alloc (Obj.cells #[.int .i64 x] 3)).drew).rangeAt G 0 (dx l):=iR fw.dH (hba.block G fw.hi);have BQ:aA tl 1 ((w8.alloc (Obj.cells #[.int .i64 x] 3)).drew) w.heap.size (.slice (some ⟨G,0,none⟩) l.length cl) l.length (dx l):=fw.own.kept fun b e=>by cases e;exact hba.block G fw.hi
              have Bq:=O6 w8 3 (.int .i64 x);have hone: ∀u∈dx l,u.oneCell'=true:=fun u hu=>by
                obtain ⟨x,_,rfl⟩:=ya2.1 hu;rfl
              have xg:(dx l).length=l.length:=by simp [dx]
              have hdl:((dx l).drop k).length=(l.length-k)*1:=by rw [ycE,xg];omega
              go_region_held3 (fun w'=>w'.cell? ⟨S,13,none⟩=some (.slice (some ⟨Gk,0,none⟩) s.tk.length c)∧w'.cell? ⟨Gk,l.length*3,none⟩=some (.int .i64 x)) (go_keep)
                ((first
                  | (refine rT (P0:=prog) (by rfl) _ _ _ (by rfl) w8.heap.size 3 3 i0 _ 1 8 hU hi0 j1 j2 j3 rfl (by decide) (.slice (some ⟨w8.heap.size,0,none⟩) 1 1) 1 [.int .i64 x] (by rfl) Bq (some ⟨G,k,none⟩) ⟨G,k,none⟩ rfl (l.length-k) (cl-k) ((dx l).drop k) (by rfl) hdl
                       (fun j u hu=>by have:=XY uZ (k:=k) (c:=cl) (by rw [xg];exact fw.cap) j u hu;rwa [yai hck] at this) (fun u hu=>hone u (ybi hu)) (by unfold maxLen;omega) (by omega) (by simp) ?_
                     intro v1 wa t1 hown1 hgrow1 o8;have BD:=hgrow1.block S rz (fun e=>by simp [Value.ownBlock] at e;omega);have Bw:=hgrow1.block Gk rf (fun e=>by simp [Value.ownBlock] at e;omega);have Bv:=hgrow1.block G sQ (fun e=>by simp [Value.ownBlock] at e;have:=fw.hi;omega);have c13:=(yan (a:=⟨S,13,none⟩) BD).trans wR;have ck:=(yan (a:=⟨Gk,l.length*3,none⟩) Bw).trans ak;have hpre:=aA.take (BQ.kept (w':=wa) fun b e=>by cases e;exact Bv) (k:=k) (by omega) fw.ne;obtain ⟨sa1,c1,rfl,hr1⟩:=aA.row hown1;obtain ⟨G1,rfl,hr2⟩: ∃G1,sa1=some ⟨G1,0,none⟩∧wa.rangeAt G1 0 ([.int .i64 x]++(dx l).drop k):=by
                       rcases hr1 with q|⟨G1,q1,_,q2⟩
                       · cases q
                       · exact ⟨G1,q1,q2⟩
                     clear hr1)
                  | (refine rT (P0:=prog) (by rfl) _ _ _ (by rfl) w.heap.size 3 tl i0 _ 1 8 hU hi0 j1 j2 j3 rfl (by decide) (.slice (some ⟨G,0,none⟩) k cl) k ((dx l).take (k*1)) (by rfl) hpre (some ⟨G1,0,none⟩) ⟨G1,0,none⟩ rfl (1+(l.length-k)) c1 ([.int .i64 x]++(dx l).drop k) (by rfl) (by rw [yaX,hdl];simp)
                       (fun j u hu=>by rw [Dw.addr_add];exact hr2 j u hu) (fun u hu=>by rcases yaR.1 hu with q|q;(rw [yaD.1 q];rfl);exact hone u (ybi q)) (by unfold maxLen;omega) (by omega) (by have:=hgrow1.size;simp at this;omega) ?_
                     intro v2 wb t2 hown2 hgrow2 wY;have hSb:=hgrow2.block S (yae rz hgrow1.size) (fun e=>by simp [Value.ownBlock] at e;have:=fw.lo;omega);have sP:=hgrow2.block Gk (yae rf hgrow1.size) (fun e=>by simp [Value.ownBlock] at e;have:=fw.lo;omega);have b13:=(yan (a:=⟨S,13,none⟩) hSb).trans c13;have bk:=(yan (a:=⟨Gk,l.length*3,none⟩) sP).trans ck)))
              all_goals (go_wp2_with fail)
              all_goals
                have hbw:Below w.heap.size w wb:=(hbb.trans ⟨hgrow1.os,hgrow1.tape,hgrow1.output,hgrow1.size,fun b hb=>hgrow1.block b (by have:=hbb.size;simp at this ⊢;omega) (fun e=>by simp [Value.ownBlock] at e;omega)⟩).trans ⟨hgrow2.os,hgrow2.tape,hgrow2.output,hgrow2.size,fun b hb=>hgrow2.block b (by have:=hbb.size;have:=hgrow1.size;simp at*;omega) (fun e=>by simp [Value.ownBlock] at e;have:=fw.lo;omega)⟩;have hlen':(l.take k++x::l.drop k).length=k+(1+(l.length-k)):=by simp;omega
                refine ⟨⟨l.length+1,l.take k++x::l.drop k,t2,by omega,by push_cast;rfl,by rw [hlen'];omega,?_,Fg.symm,(fun e=>by simp at e),hbw⟩,by simp only [RowKit.intOf];omega⟩;rw [hlen'];unfold aA;simpa [dx] using hown2
            · have hkl: ¬l.length<l.length:=by omega
              go_wp2_with fail;go_quiet (fail);go_wp2_with fail;have dY:=below_drewN hb1 nq;have y13:(wr.drewN nq).cell? ⟨S,13,none⟩=_:=CP;have yk:(wr.drewN nq).cell? ⟨Gk,l.length*3,none⟩=_:=zk;have fw:ED w (wr.drewN nq) G l.length tl l:=⟨hd.own.kept fun _ _=>rfl,hd.dH,hd.lo,hd.hi,hd.cap,hd.ne⟩;generalize wr.drewN nq=w8 at dY y13 yk fw ⊢;have hba:=(yah w8.heap.size w8).alloc (yab _) (Obj.cells #[.int .i64 x] 3);have hbb:=dY.trans (hba.mono dY.size);have wR:=(hba.cell (p:=⟨S,13,none⟩) (yae hSw dY.size)).trans y13;have ak:=(hba.cell (p:=⟨Gk,l.length*3,none⟩) (yae qZ dY.size)).trans yk;have rz:S<((w8.alloc (Obj.cells #[.int .i64 x] 3)).drew).heap.size:=yae hSw hbb.size;have rf:Gk<((w8.alloc (Obj.cells #[.int .i64 x] 3)).drew).heap.size:=yae qZ hbb.size;have hws:=dY.size;have sQ:G<((w8.alloc (Obj.cells #[.int .i64 x] 3)).drew).heap.size:=yae fw.hi hba.size;have uZ:((w8.alloc (Obj.cells #[.int .i64 x] 3)).drew).rangeAt G 0 (dx l):=iR fw.dH (hba.block G fw.hi);have BQ:aA tl 1 ((w8.alloc (Obj.cells #[.int .i64 x] 3)).drew) w.heap.size (.slice (some ⟨G,0,none⟩) l.length l.length) l.length (dx l):=fw.own.kept fun b e=>by cases e;exact hba.block G fw.hi
              have Bq:=O6 w8 3 (.int .i64 x);have hone: ∀u∈dx l,u.oneCell'=true:=fun u hu=>by
                obtain ⟨x,_,rfl⟩:=ya2.1 hu;rfl
              have xg:(dx l).length=l.length:=by simp [dx]
              go_region_held3 (fun w'=>w'.cell? ⟨S,13,none⟩=some (.slice (some ⟨Gk,0,none⟩) s.tk.length c)∧w'.cell? ⟨Gk,l.length*3,none⟩=some (.int .i64 x)) (go_keep)
                ((first
                  | (refine rT (P0:=prog) (by rfl) _ _ _ (by rfl) w8.heap.size 3 3 i0 _ 1 8 hU hi0 j1 j2 j3 rfl (by decide) (.slice (some ⟨w8.heap.size,0,none⟩) 1 1) 1 [.int .i64 x] (by rfl) Bq (some ⟨G,0,none⟩) ⟨G,0,none⟩ rfl 0 0 [] (by rfl) rfl
                       (fun j u hu=>by cases hu) (fun u hu=>by cases hu) (by unfold maxLen;omega) (by omega) (by simp) ?_
                     intro v1 wa t1 hown1 hgrow1 o8;have BD:=hgrow1.block S rz (fun e=>by simp [Value.ownBlock] at e;omega);have Bw:=hgrow1.block Gk rf (fun e=>by simp [Value.ownBlock] at e;omega);have Bv:=hgrow1.block G sQ (fun e=>by simp [Value.ownBlock] at e;have:=fw.hi;omega);have c13:=(yan (a:=⟨S,13,none⟩) BD).trans wR;have ck:=(yan (a:=⟨Gk,l.length*3,none⟩) Bw).trans ak;have hpre:=aA.take (BQ.kept (w':=wa) fun b e=>by cases e;exact Bv) (k:=l.length) (by omega) fw.ne;obtain ⟨sa1,c1,rfl,hr1⟩:=aA.row hown1;obtain ⟨G1,rfl,hr2⟩: ∃G1,sa1=some ⟨G1,0,none⟩∧wa.rangeAt G1 0 ([.int .i64 x]++ []):=by
                       rcases hr1 with q|⟨G1,q1,_,q2⟩
                       · cases q
                       · exact ⟨G1,q1,q2⟩
                     clear hr1)
                  | (refine rT (P0:=prog) (by rfl) _ _ _ (by rfl) w.heap.size 3 tl i0 _ 1 8 hU hi0 j1 j2 j3 rfl (by decide) (.slice (some ⟨G,0,none⟩) l.length l.length) l.length ((dx l).take (l.length*1)) (by rfl) hpre (some ⟨G1,0,none⟩) ⟨G1,0,none⟩ rfl (1+0) c1 ([.int .i64 x]++ []) (by rfl) rfl
                       (fun j u hu=>by rw [Dw.addr_add];exact hr2 j u hu) (fun u hu=>by rcases yaR.1 hu with q|q;(rw [yaD.1 q];rfl);cases q) (by unfold maxLen;omega) (by omega) (by have:=hgrow1.size;simp at this;omega) ?_
                     intro v2 wb t2 hown2 hgrow2 wY;have hSb:=hgrow2.block S (yae rz hgrow1.size) (fun e=>by simp [Value.ownBlock] at e;have:=fw.lo;omega);have sP:=hgrow2.block Gk (yae rf hgrow1.size) (fun e=>by simp [Value.ownBlock] at e;have:=fw.lo;omega);have b13:=(yan (a:=⟨S,13,none⟩) hSb).trans c13;have bk:=(yan (a:=⟨Gk,l.length*3,none⟩) sP).trans ck)))
              all_goals (go_wp2_with fail)
              all_goals
                have hbw:Below w.heap.size w wb:=(hbb.trans ⟨hgrow1.os,hgrow1.tape,hgrow1.output,hgrow1.size,fun b hb=>hgrow1.block b (by have:=hbb.size;simp at this ⊢;omega) (fun e=>by simp [Value.ownBlock] at e;omega)⟩).trans ⟨hgrow2.os,hgrow2.tape,hgrow2.output,hgrow2.size,fun b hb=>hgrow2.block b (by have:=hbb.size;have:=hgrow1.size;simp at*;omega) (fun e=>by simp [Value.ownBlock] at e;have:=fw.lo;omega)⟩;have hlen':(l.take l.length++x::l.drop l.length).length=l.length+(1+0):=by simp
                refine ⟨⟨l.length+1,l.take l.length++x::l.drop l.length,t2,by omega,by push_cast;rfl,by rw [hlen'],?_,Fg.symm,(fun e=>by simp at e),hbw⟩,by simp only [RowKit.intOf];omega⟩;rw [hlen'];rw [show (dx l).take (l.length*1)=dx l from by rw [Nat.mul_one];exact yb4 (by rw [xg];exact yab _)] at hown2;unfold aA;simpa [dx] using hown2
    · have hie:l.length=s.tk.length:=by omega
      have Rj: ¬(l.length:Int)<s.tk.length:=by omega
      rw [hie,yb2] at hlr;obtain ⟨sl,cl,e0,_⟩:=aA.row hown;have hown2:=hown;rw [hie,hlr] at hown2;subst e0;clear hown hlr hie hcell;go_wp2;go_ret;exact ⟨_,rfl,⟨tl,hown2⟩,hb⟩
structure Tryz.fT (w0 w:World) (X b2 P L Bs B N:Nat) (g:Nat→Int) (v0 v:Value) (l:List Sg) (n e:Int):Prop where
 cl:Cl w X [.pointer (some ⟨P,0,none⟩),v,.int .i64 n,.int .i64 e]
 own:bG w b2 v l
 rm:bP w P L Bs B N g
 lo:X<b2∧P<b2∧L<b2∧Bs<b2∧B<b2
 nx:X≠P∧X≠L∧X≠Bs∧X≠B
 b2:b2≤w0.heap.size
 mv:Dw.Mv (fun b=>b=X∨v0.ownBlock=some b) w0 w
 ob: ∀b,v.ownBlock=some b→v0.ownBlock=some b∨w0.heap.size≤b
section
variable {w0 w w':World} {X b2 P L Bs B N:Nat} {g:Nat→Int} {v0 v:Value} {l:List Tryz.Sg} {n e:Int}
theorem Tryz.fT.below (h:fT w0 w X b2 P L Bs B N g v0 v l n e) (hb:Below w.heap.size w w'):fT w0 w' X b2 P L Bs B N g v0 v l n e:=
 ⟨h.cl.below hb h.cl.lt,h.own.kept fun b hh=>hb.block b (h.own.lt b hh).2.1,h.rm.below hb,h.lo,h.nx,h.b2,h.mv.trans ⟨hb.os,hb.tape,hb.output,hb.size,fun b hh _=>hb.block b hh⟩,h.ob⟩
theorem Tryz.fT.stopped {e':Int} (h:fT w0 w X b2 P L Bs B N g v0 v l n e) (hc:Cl w' X [.pointer (some ⟨P,0,none⟩),v,.int .i64 n,.int .i64 e']) (hm:Dw.Mv (· =X) w w'):fT w0 w' X b2 P L Bs B N g v0 v l n e':=
 ⟨hc,h.own.kept fun b hh=>hm.block b (h.own.lt b hh).2.1 fun q=>by have:=(h.own.lt b hh).1;have:=h.lo.1;have q:b=X:=q;omega,h.rm.Cs hm h.nx,h.lo,h.nx,h.b2,h.mv.trans (hm.mono fun b q=> .inl q),h.ob⟩
theorem Tryz.fT.Ti {v':Value} {x:Sg} (h:fT w0 w X b2 P L Bs B N g v0 v l n e) (hc:Cl w' X [.pointer (some ⟨P,0,none⟩),v',.int .i64 n,.int .i64 e]) (ho:bG w' b2 v' (l++ [x])) (hm:Dw.Mv (fun b=>b=X∨v.ownBlock=some b) w w') (hb: ∀b,v'.ownBlock=some b→v.ownBlock=some b∨w.heap.size≤b):fT w0 w' X b2 P L Bs B N g v0 v' (l++ [x]) n e:=by
 have hs:=h.mv.size;have hlt:=h.own.lt;have hlo:=h.lo;refine ⟨hc,ho,h.rm.kept (fun k hk hq=>hm.block k hk fun q=> ?_) hm.size,h.lo,h.nx,h.b2,⟨hm.os.trans h.mv.os,hm.tape.trans h.mv.tape,hm.output.trans h.mv.output,yaw hs hm.size,fun b hb' hn=> ?_⟩,fun b hh=> ?_⟩
 ·obtain ⟨n1,n2,n3,n4⟩:=h.nx;rcases q with q|q
  ·rw [q] at hq;rcases hq with hq|hq|hq|hq<;>contradiction
  ·have:=(hlt k q).1;omega
 ·refine (hm.block b (yae hb' hs) fun q=> ?_).trans (h.mv.block b hb' hn);rcases q with q|q
  ·exact hn (.inl q)
  ·rcases h.ob b q with q|q
   ·exact hn (.inr q)
   ·omega
 ·rcases hb b hh with q|q
  ·exact h.ob b q
  ·exact .inr (by omega)
end
end Go.Proofs
namespace Go.Proofs
open Go.Dw Go.RowKit Go.Maps Go.Sort Go.Deep
theorem Tryz.Mx {w:World} {b2 a:Nat} {g:Nat→Int} {v:Value} (h:w.ownsRow b2 5 1 v 16 (row g a 16)): ∃G c,v= .slice (some ⟨G,0,none⟩) 16 c∧w.rangeAt G 0 (row g a 16):=by
 obtain ⟨sa,c,rfl,hr⟩:=aA.row (show aA 5 1 w b2 v 16 (row g a 16) from h);rcases hr with hr|⟨G,rfl,_,hr⟩
 ·have:=yaI List.length hr;rw [zW] at this;simp at this
 ·exact ⟨G,c,rfl,hr⟩
theorem Tryz.fT.size {w0 w:World} {X b2 P L Bs B N:Nat} {g:Nat→Int} {v0 v:Value} {l:List Sg} {n e:Int} (h:fT w0 w X b2 P L Bs B N g v0 v l n e):b2≤w.heap.size:=yaw h.b2 h.mv.size
set_option maxRecDepth 100000 in
theorem Tryz.zzd {w0 w:World} {X b2 P L Bs B N:Nat} {g:Nat→Int} {v0 v:Value} {n:Int} {a:Nat} {k:Int} (h:fT w0 w X b2 P L Bs B N g v0 v [] n 0) (hN:N≤1048576) (ha:(a:Int)<18446744073709551616) (hk:0≤k∧k<4294967296):
    Calls prog 138 #[.pointer (some ⟨X,0,none⟩),.int .u64 a,.int .u32 k] w fun en w'=>en= .returned (.tuple #[])∧ ∃v' l' e',fT w0 w' X b2 P L Bs B N g v0 v' l' n e'∧l'.length≤64∧e'=(gT N g a k).2∧(e'=0→l'=(gT N g a k).1):=by
  have zy:=zwc X P L Bs B N v n 0 a k g w h.cl h.rm hN ⟨by omega,ha⟩ hk;unfold gT;by_cases he:(fq N a k).2=0
  · rw [yai (show¬(fq N a k).2≠0 from fun q=>q he)];have aaH:(fq N a k).1=k/16∧k%16=0∧k/16≤64∧a+k≤N:=by
      unfold fq at he ⊢;split at he
      · cases he
      · rename_i hb;split at he
        · rename_i hin;rw [yai hb,yaj hin];refine ⟨rfl,?_,?_,hin⟩
          · by_cases q:k%16=0
            · exact q
            · exact absurd (.inr (.inl q)) hb
          · by_cases q:k/16≤64
            · exact q
            · exact absurd (.inr (.inr (by omega))) hb
        · cases he
    obtain ⟨f1,f2,f3,f4⟩:=aaH;rw [f1,yaG he,show uX 0 (fq N a k).2=0 from by unfold uX;rw [yaj he]] at zy;rw [f1];obtain ⟨m,hm,ab7⟩: ∃m:Nat,k/16=m∧m≤64:=⟨(k/16).toNat,by omega,by omega⟩;rw [hm] at zy ⊢;rw [ya0,ya0];have hmN:a+16*m≤N:=by omega
    clear f1 f2 f3 f4 hm he;go_enter func138,ntmps138;go_wp2_with (first
      | (go_at_call 161;refine zy.mono ?_;rintro en w1 ⟨rfl,hc1,hm1⟩)
      | go_in)
    have h1:=h.stopped hc1 hm1;go_loopw [8] (fun c wr=> ∃(i:Nat) (v':Value) (l':List Sg),i≤m∧c= .int .i64 i∧l'.length=i∧fT w0 wr X b2 P L Bs B N g v0 v' l' n 0∧(fun _:Unit=>lW g a m [])=fun _=>lW g (a+16*i) (m-i) l') (fun c _=>m-(RowKit.intOf c).toNat)
    case atStart=>exact ⟨0,v,[],yaE _,rfl,rfl,h1,rfl⟩
    case round=>
      obtain ⟨i,v',l',hi,rfl,hl,hR,hit⟩:=hrel;by_cases him:i<m
      · have aaJ:(i:Int)<m:=by omega
        have hrd:=zrC P L Bs B N (a+16*i) 16 g wr hR.rm hN (by decide) (by omega);have ecast:((a+16*i:Nat):Int)=(a:Int)+16*i:=by push_cast;rfl
        rw [ecast] at hrd;have w1':IntKind.wrap .u64 (i:Int)=i:=cZ (by omega) (by omega);have w2':IntKind.wrap .u64 (16*(i:Int))=16*i:=cZ (by omega) (by omega);have w3':IntKind.wrap .u64 ((a:Int)+16*i)=a+16*i:=cZ (by omega) (by omega);have hbyte:=hR.rm.byte;have c0:=hR.cl.cell 0 _ rfl;have nE:=fun X' c' w' (hq:w'.rangeAt X' 0 (row g (a+16*i) 16))=>VH hbyte (a+16*i) X' 0 c' w' hq;have bF:=lg g hbyte (a+16*i+14) 2;have p2:(256:Int)^2=65536:=by decide
        rw [p2] at bF;have hseg:jv g (a+16*i)=⟨ax g (a+16*i) 8,ax g (a+16*i+8) 4,ax g (a+16*i+14) 2/2%2*2 !=0⟩:=rfl;have hstep:lW g (a+16*i) (m-i) l'=if ax g (a+16*i+14) 2/4%2=1 then ([],4) else lW g (a+16*(i+1)) (m-(i+1)) (l'++ [jv g (a+16*i)]):=by
          rw [show m-i=(m-(i+1))+1 by omega,show a+16*(i+1)=a+16*i+16 by omega];rfl
        have hit:=ybu hit ();rw [hstep] at hit;clear hstep;unfold DT at nE;rw [hseg] at hit;clear hseg;generalize ax g (a+16*i) 8=A1 at nE hit;generalize ax g (a+16*i+8) 4=L1 at nE hit;generalize ax g (a+16*i+12) 2=I1 at nE;generalize ax g (a+16*i+14) 2=F1 at nE hit bF;have hbt:bits .and .u16 F1 4=F1/4%2*4:=by have:=IZ F1 2 (by decide) bF.1 bF.2;simpa using this
        have hsg:=fun w' (hR':fT w0 w' X b2 P L Bs B N g v0 v' l' n 0)=>zvS X b2 (.pointer (some ⟨P,0,none⟩)) v' n 0 A1 L1 F1 l' w' hR'.cl hR'.own hR'.size hR'.lo.1 (by omega) bF;have hsp:=fun w' (hR':fT w0 w' X b2 P L Bs B N g v0 v' l' n 0)=>Dk X (.pointer (some ⟨P,0,none⟩)) v' n 0 4 w' hR'.cl;have hbelow: ∀w2,fT w0 w2 X b2 P L Bs B N g v0 v' l' n 0→fT w0 (w2.alloc (Obj.cells #[.int .u64 A1,.int .u32 L1,.int .u16 I1,.int .u16 F1] 60)) X b2 P L Bs B N g v0 v' l' n 0:=fun w2 q=>q.below ((yah _ w2).alloc (yab _) _);by_cases hF:F1/4%2=1
        · have hit2:(fun _:Unit=>lW g a m [])=fun _=>([],4):=by rw [hit,yaj hF]
          clear hit;go_wp2_with (first
            | (go_at_call 137;refine hrd.mono ?_;rintro en w1 ⟨vb,rfl,hrow,hb1⟩;obtain ⟨G,cp,rfl,BS⟩:=Mx hrow)
            | (go_at_call 18;refine (nE _ _ _ BS).mono ?_;rintro en w2 ⟨rfl,hb2⟩;have qp:=hbelow _ ((hR.below hb1).below hb2))
            | (go_at_call 136;refine (hsp _ qp).mono ?_;rintro en w4 ⟨rfl,hc4,xu⟩)
            | go_in)
          refine yaP (results_none rfl _ _ _) rfl ?_;exact ⟨rfl,v',l',4,qp.stopped hc4 xu,by omega,by rw [ybu hit2 ()],fun q=>absurd q (by decide)⟩
        · have hit2:(fun _:Unit=>lW g a m [])=fun _=>lW g (a+16*(i+1)) (m-(i+1)) (l'++ [⟨A1,L1,F1/2%2*2 !=0⟩]):=by rw [hit,yai hF]
          clear hit;have QA:F1/4%2=0:=by omega
          go_wp2_with (first
            | (go_at_call 137;refine hrd.mono ?_;rintro en w1 ⟨vb,rfl,hrow,hb1⟩;obtain ⟨G,cp,rfl,BS⟩:=Mx hrow)
            | (go_at_call 18;refine (nE _ _ _ BS).mono ?_;rintro en w2 ⟨rfl,hb2⟩;have qp:=hbelow _ ((hR.below hb1).below hb2))
            | (go_at_call 139;refine (hsg _ qp).mono ?_;rintro en w4 ⟨rfl,v4,hc4,ho4,xu,hv4⟩)
            | go_in)
          exact ⟨⟨i+1,v4,_,by omega,by push_cast;rfl,by simp;omega,qp.Ti hc4 ho4 xu hv4,hit2⟩,by simp only [RowKit.intOf];omega⟩
      · have aaJ: ¬(i:Int)<m:=by omega
        go_wp2;go_end0;have:i=m:=by omega
        subst this;have hit:=ybu hit ();rw [yb8] at hit;exact ⟨rfl,v',l',0,hR,by omega,by rw [hit];rfl,fun _=>by rw [hit];rfl⟩
  · rw [yaj he];have hb0:(fq N a k).1=0:=by
      unfold fq at he ⊢;split
      · rfl
      · rename_i hb;split
        · rename_i hin;rw [yai hb,yaj hin] at he;exact absurd rfl he
        · rfl
    rw [hb0,yar he,show uX 0 (fq N a k).2=(fq N a k).2 from by unfold uX tJ;rw [yai he];rfl] at zy;generalize (fq N a k).2=err at zy he ⊢;go_enter func138,ntmps138;go_wp2_with (first
      | (go_at_call 161;refine zy.mono ?_;rintro en w1 ⟨rfl,hc1,hm1⟩)
      | go_in)
    have h1:=h.stopped hc1 hm1;go_loopw [8] (fun c wr=>c= .int .i64 0∧wr=w1) (fun c _=>0)
    case atStart=>exact ⟨rfl,rfl⟩
    case round=>
      obtain ⟨rfl,rfl⟩:=hrel;go_wp2;go_end0;exact ⟨rfl,v,[],err,h1,yaE _,rfl,fun q=>absurd q he⟩
set_option maxRecDepth 100000 in
theorem Tryz.zzw {w0 w:World} {X b2 P L Bs B N:Nat} {g:Nat→Int} {v0 v:Value} {l:List Sg} {n e:Int} (h:fT w0 w X b2 P L Bs B N g v0 v l n e) (hN:N≤1048576) (hok:e=0→ ∀x∈l,x.ok) (hl:l.length≤100000):
    Calls prog 140 #[.pointer (some ⟨X,0,none⟩)] w fun en w'=> ∃e1,e1=(if e=0 then iC N l else e)∧en= .returned (.tuple #[if e1=0 then v else .slice none 0 0,.int .i64 e1])∧fT w0 w' X b2 P L Bs B N g v0 v l n e1:=by
  obtain ⟨sa,c,rfl,_⟩:=h.own.slice;have c0:=h.cl.cell 0 _ rfl;have c1:=h.cl.cell 1 _ rfl;have c3:=h.cl.cell 3 _ rfl;have f3:=h.cl.free 3;have QO:=h.cl.lt;have hsv:e=0→ ∀w',fT w0 w' X b2 P L Bs B N g v0 (.slice sa l.length c) l n e→aX (fun _=>False) w' (.slice sa l.length c) l:=fun q w' h'=>h'.own.xQ (hok q) (fun _ _ q=>q);have hck:=fun q=>H9 (hsv q w h);by_cases he:e=0
  · replace hsv:=hsv he;replace hck:=hck he;subst he;by_cases hbad:l= []∨ ¬gH l=0
    · have hlk:iC N l=4:=by unfold iC;rw [yaj hbad]
      have hset: ∀w1,fT w0 w1 X b2 P L Bs B N g v0 (.slice sa l.length c) l n 0→fT w0 (w1.setCell ⟨X,3,none⟩ (.int .i64 4)) X b2 P L Bs B N g v0 (.slice sa l.length c) l n 4:=fun w1 h1=>h1.stopped (h1.cl.set 3 (.int .i64 4) (by simp)) ⟨rfl,rfl,rfl,by simp,fun k hk hne=>yac w1 ⟨X,3,none⟩ _ k hne⟩;refine yaq (R:=fun en w'=>en= .returned (.tuple #[.slice none 0 0,.int .i64 4])∧fT w0 w' X b2 P L Bs B N g v0 (.slice sa l.length c) l n 4) ?_ fun en w' hh=>⟨4,by rw [yaj rfl,hlk],hh.1,hh.2⟩;clear hlk;by_cases hn:l.length=0
      · have hs0:=hset w h;have d3:=hs0.cl.cell 3 _ rfl;have hn':(l.length:Int)=0:=by omega
        clear hbad hck;go_enter func140,ntmps140;go_wp2_with fail;go_quiet (fail);go_wp2;go_ret2;exact ⟨rfl,hs0.below (below_drewN (yah _ _) _)⟩
      · have hse: ¬gH l=0:=by
          rcases hbad with q|q
          · exact absurd (by rw [q];rfl) hn
          · exact q
        have hn': ¬(l.length:Int)=0:=by omega
        clear hbad;generalize gH l=se at hck hse;have ace:(se !=0)=true:=by simpa using hse
        go_enter func140,ntmps140;go_wp2_with (first
          | (go_at_call 83;refine hck.mono ?_;rintro en w1 ⟨rfl,hb1⟩;have h1:=h.below hb1;have g3:=h1.cl.cell 3 _ rfl;have k3:=h1.cl.free 3;have hs0:=hset w1 h1;have d3:=hs0.cl.cell 3 _ rfl)
          | go_in)
        go_quiet (fail);go_wp2;go_ret2;exact ⟨rfl,hs0.below (below_drewN (yah _ _) _)⟩
    · have hse:gH l=0:=by
        by_cases q:gH l=0
        · exact q
        · exact absurd (.inr q) hbad
      have hn: ¬l.length=0:=fun q=>hbad (.inl (ybn.1 q));have hlk:iC N l=nR N l:=by unfold iC;rw [yai hbad]
      rw [hse] at hck;have hn': ¬(l.length:Int)=0:=by omega
      have hin:=fun w1 (h1:fT w0 w1 X b2 P L Bs B N g v0 (.slice sa l.length c) l n 0)=>zCE h1.rm hN (hsv w1 h1) hl;rw [yaj rfl,hlk];clear hlk hse hbad;generalize nR N l=si at hin ⊢;have hset: ∀w1,fT w0 w1 X b2 P L Bs B N g v0 (.slice sa l.length c) l n 0→fT w0 (w1.setCell ⟨X,3,none⟩ (.int .i64 si)) X b2 P L Bs B N g v0 (.slice sa l.length c) l n si:=fun w1 h1=>h1.stopped (h1.cl.set 3 (.int .i64 si) (by simp)) ⟨rfl,rfl,rfl,by simp,fun k hk hne=>yac w1 ⟨X,3,none⟩ _ k hne⟩;by_cases hs:si=0
      · refine yaq (R:=fun en w'=>en= .returned (.tuple #[.slice sa l.length c,.int .i64 0])∧fT w0 w' X b2 P L Bs B N g v0 (.slice sa l.length c) l n 0) ?_ fun en w' hh=>⟨0,hs.symm,hh.1,hh.2⟩;subst hs;go_enter func140,ntmps140;go_wp2_with (first
          | (go_at_call 83;refine hck.mono ?_;rintro en w1 ⟨rfl,hb1⟩;have h1:=h.below hb1;have g0:=h1.cl.cell 0 _ rfl;have g1:=h1.cl.cell 1 _ rfl;have g3:=h1.cl.cell 3 _ rfl;have k3:=h1.cl.free 3)
          | go_in)
        go_region_held3 (fun w'=>w'.cell? ⟨X,0,none⟩=some (.pointer (some ⟨P,0,none⟩))∧w'.cell? ⟨X,1,none⟩=some (.slice sa l.length c)) (go_keep)
          ((first|(go_at_call 162;refine (hin w1.drew (h1.below ((yah _ w1).drew))).mono ?_;rintro en w3 ⟨rfl,hb3⟩;have h3:=(h1.below ((yah _ w1).drew)).below hb3;have m0:=h3.cl.cell 0 _ rfl;have m1:=h3.cl.cell 1 _ rfl;have m3:=h3.cl.cell 3 _ rfl;have m4:=h3.cl.free 3;have h5:=hset w3 h3;have s0:=h5.cl.cell 0 _ rfl;have s1:=h5.cl.cell 1 _ rfl;have s3:=h5.cl.cell 3 _ rfl)))
        all_goals go_wp2_with fail
        all_goals
          go_ret2;exact ⟨rfl,h5⟩
      · have hs2:(si !=0)=true:=by simpa using hs
        refine yaq (R:=fun en w'=>en= .returned (.tuple #[.slice none 0 0,.int .i64 si])∧fT w0 w' X b2 P L Bs B N g v0 (.slice sa l.length c) l n si) ?_ fun en w' hh=>⟨si,rfl,by rw [yai hs];exact hh.1,hh.2⟩;go_enter func140,ntmps140;go_wp2_with (first
          | (go_at_call 83;refine hck.mono ?_;rintro en w1 ⟨rfl,hb1⟩;have h1:=h.below hb1;have g0:=h1.cl.cell 0 _ rfl;have g1:=h1.cl.cell 1 _ rfl;have g3:=h1.cl.cell 3 _ rfl;have k3:=h1.cl.free 3)
          | go_in)
        go_region_held3 (fun w'=>w'.cell? ⟨X,0,none⟩=some (.pointer (some ⟨P,0,none⟩))∧w'.cell? ⟨X,1,none⟩=some (.slice sa l.length c)) (go_keep)
          ((first|(go_at_call 162;refine (hin w1.drew (h1.below ((yah _ w1).drew))).mono ?_;rintro en w3 ⟨rfl,hb3⟩;have h3:=(h1.below ((yah _ w1).drew)).below hb3;have m0:=h3.cl.cell 0 _ rfl;have m1:=h3.cl.cell 1 _ rfl;have m3:=h3.cl.cell 3 _ rfl;have m4:=h3.cl.free 3;have h5:=hset w3 h3;have s0:=h5.cl.cell 0 _ rfl;have s1:=h5.cl.cell 1 _ rfl;have s3:=h5.cl.cell 3 _ rfl)))
        all_goals go_wp2_with fail
        all_goals
          go_quiet (fail);go_wp2;go_ret2;exact ⟨rfl,h5.below (below_drewN (yah _ _) _)⟩
  · refine yaq (R:=fun en w'=>en= .returned (.tuple #[.slice none 0 0,.int .i64 e])∧fT w0 w' X b2 P L Bs B N g v0 (.slice sa l.length c) l n e) ?_ fun en w' hh=>⟨e,by rw [yai he],by rw [yai he];exact hh.1,hh.2⟩;go_enter func140,ntmps140;go_wp2_with fail;go_quiet (fail);go_wp2;go_ret2;exact ⟨rfl,h.below (below_drewN (yah _ w) _)⟩
set_option maxRecDepth 100000 in
theorem Tryz.zpU {n a:Int} {x:Bool} (hn:1≤n∧n≤16) (ha:0≤a∧a<n) (w:World):
  Calls prog 63 #[.agg #[.int .i64 a,.bool x],.int .i64 n] w fun e w'=>e= .returned (.int .i64 0)∧Below w.heap.size w w':=by
 have h1: ¬a<0:=by omega
 have h2: ¬n≤a:=by omega
 have h3: ¬n<1:=by omega
 have h4: ¬(32768:Int)<n:=by omega
 have h5:1≤n:=hn.1;have h6:n≤32768:=by omega
 have hb:=(yah w.heap.size w).alloc (yab _) (.cells #[.int .i64 a,.bool x] 35);go_enter func63,ntmps63;go_wp2;go_ret;exact ⟨rfl,hb⟩
set_option maxRecDepth 100000 in
theorem Tryz.zp1 {r:Rg} (h:jG r) (P:Nat) (w:World):
    Calls prog 135 #[.pointer (some ⟨P,0,none⟩),r.gJ,.bool true] w fun e w'=>e= .returned (.int .i64 0)∧Below w.heap.size w w':=by
  have hck:=fun w'=>XB h w';unfold Rg.gJ at hck ⊢;generalize r.n=n at*;generalize r.d=d at*;generalize r.v=v at*;generalize r.c=c at*;have kc:=Cl.new w #[.bool true,.int .i64 n,.int .u64 d,.int .u64 v,.int .u64 c] 31;have hb:=(yah w.heap.size w).alloc (yab _) (.cells #[.bool true,.int .i64 n,.int .u64 d,.int .u64 v,.int .u64 c] 31);go_enter func135,ntmps135;go_wp2_with (first
    | (go_at_call 71;refine (hck _).mono ?_;rintro en w1 ⟨rfl,hb1⟩;have k1:=kc.below hb1 kc.lt;have c0:=k1.cell 0 _ rfl)
    | go_in)
  go_ret;exact ⟨rfl,hb.trans (hb1.mono (by simp))⟩
set_option maxRecDepth 100000 in
theorem Tryz.zt5 {w:World} {P:Nat} {r:Rg} {ev tb:Bool} (hr:jG r):
    Calls prog 33 #[.pointer (some ⟨P,0,none⟩),r.gJ,.agg #[.bool ev,.bool tb,.bool true]] w fun e w'=> ∃S,e= .returned (.tuple #[.pointer (some ⟨S,0,none⟩),.int .i64 0])∧w.heap.size≤S∧Cl w' S ((PS.fresh ev tb).aJ r P (.slice none 0 0) (.slice none 0 0) 0)∧Below w.heap.size w w':=by
  have hck:=fun w'=>XB hr w';have hps:=Zb 9 (.inr rfl);have hrw:(PS.fresh ev tb).aJ r P (.slice none 0 0) (.slice none 0 0) 0= [.pointer (some ⟨P,0,none⟩),.bool true,.int .i64 r.n,.int .u64 r.d,.int .u64 r.v,.int .u64 r.c,.bool ev,.bool tb,.bool true,.int .i64 0,.bool true,.int .i64 0,.bool true,.slice none 0 0,.int .i64 0,.int .i64 0,.bool false,.int .i64 0,.slice none 0 0,.int .u32 0,.bool false,.bool false,.bool false,.int .i64 0]:=rfl;rw [hrw];clear hrw;unfold Rg.gJ at*;go_enter func33,ntmps33;go_wp2_with (first
    | (go_at_call 71;refine (hck _).mono ?_;rintro e w' ⟨rfl,hb⟩;have ka:=((Cl.new w _ _).alloc _).below hb (by simp<;>omega);have kb:=(Cl.new (w.alloc _) _ _).below hb (by simp<;>omega);rw [iP] at kb;have x0:=ka.cell 0 _ rfl;have x1:=ka.cell 1 _ rfl;have x2:=ka.cell 2 _ rfl;have x3:=ka.cell 3 _ rfl;have x4:=ka.cell 4 _ rfl;have y0:=kb.cell 0 _ rfl;have y1:=kb.cell 1 _ rfl;have y2:=kb.cell 2 _ rfl)
    | go_in)
  go_region_held3 (fun w'=>w'.cell? ⟨w.heap.size,0,none⟩=some (.bool true)∧w'.cell? ⟨w.heap.size,1,none⟩=some (.int .i64 r.n)∧w'.cell? ⟨w.heap.size,2,none⟩=some (.int .u64 r.d)∧w'.cell? ⟨w.heap.size,3,none⟩=some (.int .u64 r.v)∧w'.cell? ⟨w.heap.size,4,none⟩=some (.int .u64 r.c)∧w'.cell? ⟨w.heap.size+1,0,none⟩=some (.bool ev)∧w'.cell? ⟨w.heap.size+1,1,none⟩=some (.bool tb)∧w'.cell? ⟨w.heap.size+1,2,none⟩=some (.bool true)) (go_keep)
    (first
      | (go_at_call 9;have hz:=hb5;refine (hps _).mono ?_;rintro e w6 ⟨rfl,hb6⟩;have t0:w6.cell? ⟨w.heap.size,0,none⟩=some (.bool true):=gG hb6 (by go_keep);have t1:w6.cell? ⟨w.heap.size,1,none⟩=some (.int .i64 r.n):=gG hb6 (by go_keep);have t2:w6.cell? ⟨w.heap.size,2,none⟩=some (.int .u64 r.d):=gG hb6 (by go_keep);have t3:w6.cell? ⟨w.heap.size,3,none⟩=some (.int .u64 r.v):=gG hb6 (by go_keep);have t4:w6.cell? ⟨w.heap.size,4,none⟩=some (.int .u64 r.c):=gG hb6 (by go_keep);have t5:w6.cell? ⟨w.heap.size+1,0,none⟩=some (.bool ev):=gG hb6 (by go_keep);have t6:w6.cell? ⟨w.heap.size+1,1,none⟩=some (.bool tb):=gG hb6 (by go_keep);have t7:w6.cell? ⟨w.heap.size+1,2,none⟩=some (.bool true):=gG hb6 (by go_keep))
      | (go_at_call 9;refine (hps _).mono ?_;rintro e w5 ⟨rfl,hb5⟩;have z0:w5.cell? ⟨w.heap.size,0,none⟩=some (.bool true):=gG hb5 (by go_keep);have z1:w5.cell? ⟨w.heap.size,1,none⟩=some (.int .i64 r.n):=gG hb5 (by go_keep);have z2:w5.cell? ⟨w.heap.size,2,none⟩=some (.int .u64 r.d):=gG hb5 (by go_keep);have z3:w5.cell? ⟨w.heap.size,3,none⟩=some (.int .u64 r.v):=gG hb5 (by go_keep);have z4:w5.cell? ⟨w.heap.size,4,none⟩=some (.int .u64 r.c):=gG hb5 (by go_keep);have z5:w5.cell? ⟨w.heap.size+1,0,none⟩=some (.bool ev):=gG hb5 (by go_keep);have z6:w5.cell? ⟨w.heap.size+1,1,none⟩=some (.bool tb):=gG hb5 (by go_keep);have z7:w5.cell? ⟨w.heap.size+1,2,none⟩=some (.bool true):=gG hb5 (by go_keep)))
  all_goals (go_wp2_with fail;go_ret2)
  all_goals
    have hW:Below w.heap.size w w':=(((yah _ w).alloc (yab _) _).alloc (by simp) _).trans (hb.mono (by simp<;>omega));have hD:Below w.heap.size w w'.drew:=hW.drew;have hs1:=hW.size;have hd1:w'.drew.heap.size=w'.heap.size:=rfl;have hs5:=hb5.size;have hs6:=hb6.size
    try simp only [iP] at hs5 hs6
    have h6:Below w.heap.size w w6:=(hD.trans (hb5.mono (by omega))).trans (hb6.mono (by omega));exact ⟨w6.heap.size,rfl,by omega,Cl.new w6 _ _,h6.alloc h6.size _⟩
set_option maxRecDepth 100000 in
theorem Tryz.zv0 {w:World} {P:Nat} {r:Rg} {ev tb:Bool}:
  Calls prog 33 #[.pointer (some ⟨P,0,none⟩),r.gJ,.agg #[.bool ev,.bool tb,.bool false]] w fun e w'=>e= .returned (.tuple #[.pointer none,.int .i64 2])∧Below w.heap.size w w':=by
 have hb:=((yah w.heap.size w).alloc (yab _) (Obj.cells #[.bool true,.int .i64 r.n,.int .u64 r.d,.int .u64 r.v,.int .u64 r.c] 31)).alloc (by simp) (Obj.cells #[.bool ev,.bool tb,.bool false] 23);unfold Rg.gJ;go_enter func33,ntmps33;go_wp2_with fail;go_ret2;exact ⟨rfl,hb⟩
set_option maxRecDepth 100000 in
theorem Tryz.zxE {w:World} {P L Bs B N:Nat} {g:Nat→Int} {r:Rg} {ev tb:Bool} (st:GM w P L Bs B N g):
    Calls prog 32 #[.pointer (some ⟨P,0,none⟩),r.gJ,.agg #[.bool ev,.bool tb,.bool false]] w fun e w'=>e= .returned (.tuple #[.pointer none,.int .i64 2])∧Below w.heap.size w w':=by
  have lM: ∀x y tx ty,GM ((w.alloc (.cells x tx)).alloc (.cells y ty)) P L Bs B N g:=fun x y tx ty=>(st.below ((yah _ w).alloc (yab _) _)).below ((yah _ _).alloc (yab _) _);have hb:=((yah w.heap.size w).alloc (yab _) (Obj.cells #[.bool true,.int .i64 r.n,.int .u64 r.d,.int .u64 r.v,.int .u64 r.c] 31)).alloc (by simp) (Obj.cells #[.bool ev,.bool tb,.bool false] 23);unfold Rg.gJ;go_enter func32,ntmps32;go_wp2_with (first
    | (go_at_call 17;refine (Hg P L Bs B N 0 g _ (lM _ _ _ _)).mono ?_;rintro e w' ⟨rfl,hw⟩;have hw:=hw.symm;subst hw)
    | go_in)
  go_ret2;exact ⟨rfl,hb⟩
structure Tryz.kQ (w0 w:World) (X T5 T6 T8 dP b2 P L Bs B N:Nat) (g:Nat→Int) (r:Rg) (v:Value) (l:List Sg) (e aD:Int) (wp:Bool) (id ct:Int):Prop where
 cl:Cl w X [.pointer (some ⟨P,0,none⟩),v,.int .i64 0,.int .i64 e]
 own:bG w b2 v l
 rm:bP w P L Bs B N g
 c5:Cl w T5 [.bool true,.int .i64 r.n,.int .u64 r.d,.int .u64 r.v,.int .u64 r.c]
 c6:Cl w T6 [.int .i64 aD,.bool wp]
 c8:Cl w T8 [.int .i64 0,.int .i64 0,.slice none 0 0]
 c12:Cl w dP [.int .i64 id,.int .i64 ct,.slice none 0 0]
 old:Below w0.heap.size w0 w
 lo:X<b2∧T5<b2∧T6<b2∧T8<b2∧dP<b2∧P<b2∧L<b2∧Bs<b2∧B<b2
 hi:w0.heap.size≤X∧w0.heap.size≤T6∧w0.heap.size≤dP∧w0.heap.size≤T8
 ne:(X≠T5∧X≠T6∧X≠T8∧X≠dP)∧(dP≠T5∧dP≠T6∧dP≠T8)∧(T6≠T5∧T6≠T8)
 nx:X≠P∧X≠L∧X≠Bs∧X≠B
 n6:T6≠P∧T6≠L∧T6≠Bs∧T6≠B
 n12:dP≠P∧dP≠L∧dP≠Bs∧dP≠B
 b2:b2≤w.heap.size
section
variable {w0 w w':World} {X T5 T6 T8 dP b2 P L Bs B N:Nat} {g:Nat→Int} {r:Tryz.Rg} {v v':Value} {l l':List Tryz.Sg} {e e' aD:Int} {wp:Bool} {id ct:Int}
theorem Tryz.kQ.below (h:kQ w0 w X T5 T6 T8 dP b2 P L Bs B N g r v l e aD wp id ct) (hb:Below w.heap.size w w'):kQ w0 w' X T5 T6 T8 dP b2 P L Bs B N g r v l e aD wp id ct:=
 ⟨h.cl.below hb h.cl.lt,h.own.kept fun b hh=>hb.block b (h.own.lt b hh).2.1,h.rm.below hb,h.c5.below hb h.c5.lt,h.c6.below hb h.c6.lt,h.c8.below hb h.c8.lt,h.c12.below hb h.c12.lt,h.old.trans (hb.mono h.old.size),h.lo,h.hi,h.ne,h.nx,h.n6,h.n12,yaw h.b2 hb.size⟩
theorem Tryz.kQ.rd (h:kQ w0 w X T5 T6 T8 dP b2 P L Bs B N g r v l e aD wp id ct):fT w w X b2 P L Bs B N g v v l 0 e:=
 ⟨h.cl,h.own,h.rm,⟨h.lo.1,h.lo.2.2.2.2.2⟩,h.nx,h.b2,Dw.Mv.refl _ _,fun _ q=> .inl q⟩
theorem Tryz.kQ.turn (h:kQ w0 w X T5 T6 T8 dP b2 P L Bs B N g r v l e aD wp id ct) (q:fT w w' X b2 P L Bs B N g v v' l' 0 e'):kQ w0 w' X T5 T6 T8 dP b2 P L Bs B N g r v' l' e' aD wp id ct:=by
 obtain ⟨l1,l2,l3,l4,l5,l6,l7,l8,l9⟩:=h.lo;obtain ⟨⟨n1,n2,n3,n4⟩,⟨n5,n6,n7⟩,n8,n9⟩:=h.ne;have hv: ∀b,b<b2→v.ownBlock≠some b:=fun b hb hh=>by have:=(h.own.lt b hh).1;omega
 have kp: ∀b,b<w.heap.size→b≠X→b<b2→w'.heap[b]? =w.heap[b]? :=fun b h1 h2 h3=>q.mv.block b h1 fun hh=>by
  rcases hh with hh|hh
  ·exact h2 hh
  ·exact hv b h3 hh
 have hs:=h.old.size;have hi:=h.hi;refine ⟨q.cl,q.own,q.rm,h.c5.kept (kp T5 h.c5.lt (fun e=>n1 e.symm) l2),h.c6.kept (kp T6 h.c6.lt (fun e=>n2 e.symm) l3),h.c8.kept (kp T8 h.c8.lt (fun e=>n3 e.symm) l4),h.c12.kept (kp dP h.c12.lt (fun e=>n4 e.symm) l5),⟨q.mv.os.trans h.old.os,q.mv.tape.trans h.old.tape,q.mv.output.trans h.old.output,yaw hs q.mv.size,fun b hb=>(q.mv.block b (yae hb hs) fun hh=> ?_).trans (h.old.block b hb)⟩,h.lo,h.hi,h.ne,h.nx,h.n6,h.n12,yaw h.b2 q.mv.size⟩;rcases hh with hh|hh
 ·omega
 ·have:=(h.own.lt b hh).1;omega
theorem Tryz.kQ.Tj (h:kQ w0 w X T5 T6 T8 dP b2 P L Bs B N g r v l e aD wp id ct) {j:Nat} {x:Value} {id' lZ:Int} (hj:j<3) (hx: [Value.int .i64 id,.int .i64 ct,.slice none 0 0].set j x= [.int .i64 id',.int .i64 lZ,.slice none 0 0]):kQ w0 (w.setCell ⟨dP,j,none⟩ x) X T5 T6 T8 dP b2 P L Bs B N g r v l e aD wp id' lZ:=by
 obtain ⟨l1,l2,l3,l4,l5,l6,l7,l8,l9⟩:=h.lo;obtain ⟨⟨n1,n2,n3,n4⟩,⟨n5,n6,n7⟩,n8,n9⟩:=h.ne;obtain ⟨m1,m2,m3,m4⟩:=h.n12;have kp: ∀b,b≠dP→(w.setCell ⟨dP,j,none⟩ x).heap[b]? =w.heap[b]? :=fun b hb=>yac w ⟨dP,j,none⟩ x b hb;have hs:=h.old.size;have hi:=h.hi;refine ⟨h.cl.kept (kp X n4),h.own.kept fun b hh=>kp b fun e=>by have:=(h.own.lt b hh).1;omega,h.rm.kept (fun k hk hq=>kp k fun e=>by rcases hq with q|q|q|q<;>(rw [e] at q;contradiction)) (by simp),h.c5.kept (kp T5 fun e=>n5 e.symm),h.c6.kept (kp T6 fun e=>n6 e.symm),h.c8.kept (kp T8 fun e=>n7 e.symm),hx▸h.c12.set j x (by simpa using hj),⟨h.old.os,h.old.tape,h.old.output,by simpa using hs,fun b hb=>(kp b fun e=>by omega).trans (h.old.block b hb)⟩,h.lo,h.hi,h.ne,h.nx,h.n6,h.n12,by simpa using h.b2⟩
theorem Tryz.kQ.abD (h:kQ w0 w X T5 T6 T8 dP b2 P L Bs B N g r v l e aD wp id ct) {aP:Int} {wp1:Bool}:kQ w0 ((w.setCell ⟨T6,0,none⟩ (.int .i64 aP)).setCell ⟨T6,1,none⟩ (.bool wp1)) X T5 T6 T8 dP b2 P L Bs B N g r v l e aP wp1 id ct:=by
 obtain ⟨l1,l2,l3,l4,l5,l6,l7,l8,l9⟩:=h.lo;obtain ⟨⟨n1,n2,n3,n4⟩,⟨n5,n6,n7⟩,n8,n9⟩:=h.ne;obtain ⟨m1,m2,m3,m4⟩:=h.n6;have kp: ∀b,b≠T6→((w.setCell ⟨T6,0,none⟩ (.int .i64 aP)).setCell ⟨T6,1,none⟩ (.bool wp1)).heap[b]? =w.heap[b]? :=fun b hb=>(yac _ ⟨T6,1,none⟩ _ b hb).trans (yac w ⟨T6,0,none⟩ _ b hb);have hs:=h.old.size;have hi:=h.hi;refine ⟨h.cl.kept (kp X n2),h.own.kept fun b hh=>kp b fun e=>by have:=(h.own.lt b hh).1;omega,h.rm.kept (fun k hk hq=>kp k fun e=>by rcases hq with q|q|q|q<;>(rw [e] at q;contradiction)) (by simp),h.c5.kept (kp T5 fun e=>n8 e.symm),(h.c6.set 0 (.int .i64 aP) (by simp)).set 1 (.bool wp1) (by simp),h.c8.kept (kp T8 fun e=>n9 e.symm),h.c12.kept (kp dP n6),⟨h.old.os,h.old.tape,h.old.output,by simpa using hs,fun b hb=>(kp b fun e=>by omega).trans (h.old.block b hb)⟩,h.lo,h.hi,h.ne,h.nx,h.n6,h.n12,by simpa using h.b2⟩
end
end Go.Proofs
namespace Go.Proofs
set_option maxRecDepth 100000 in
theorem Tryz.zyb {t:Array Value} (h:t.size=134) {v5 v8 v9 v11 v12:Value} (h5:t.getD 5 undef=v5) (h8:t.getD 8 undef=v8) (h9:t.getD 9 undef=v9) (h11:t.getD 11 undef=v11) (h12:t.getD 12 undef=v12):
  ∃ j:Nat→Value,t= #[j 0,j 1,j 2,j 3,j 4,v5,j 6,j 7,v8,v9,j 10,v11,v12,j 13,j 14,j 15,j 16,j 17,j 18,j 19,j 20,j 21,j 22,j 23,j 24,j 25,j 26,j 27,j 28,j 29,j 30,j 31,j 32,j 33,j 34,j 35,j 36,j 37,j 38,j 39,j 40,j 41,j 42,j 43,j 44,j 45,j 46,j 47,j 48,j 49,j 50,j 51,j 52,j 53,j 54,j 55,j 56,j 57,j 58,j 59,j 60,j 61,j 62,j 63,j 64,j 65,j 66,j 67,j 68,j 69,j 70,j 71,j 72,j 73,j 74,j 75,j 76,j 77,j 78,j 79,j 80,j 81,j 82,j 83,j 84,j 85,j 86,j 87,j 88,j 89,j 90,j 91,j 92,j 93,j 94,j 95,j 96,j 97,j 98,j 99,j 100,j 101,j 102,j 103,j 104,j 105,j 106,j 107,j 108,j 109,j 110,j 111,j 112,j 113,j 114,j 115,j 116,j 117,j 118,j 119,j 120,j 121,j 122,j 123,j 124,j 125,j 126,j 127,j 128,j 129,j 130,j 131,j 132,j 133]:=by
 subst h5 h8 h9 h11 h12;obtain ⟨l⟩:=t;exact ⟨fun i=>(⟨l⟩:Array Value).getD i undef,Og l h⟩
open Go.Dw Go.RowKit Go.Maps Go.Sort Go.Deep
def Tryz.abo (N:Nat) (g:Nat→Int) (n aD:Int) (tb:Bool) (w:World) (en:Ending) (w':World):Prop:=
 Below w.heap.size w w'∧ ∃e1 v,(e1=0↔(bZ N g n aD tb).e=0)∧(e1=0→en= .returned (.tuple #[.agg #[.int .i64 (bZ N g n aD tb).id,.int .i64 (bZ N g n aD tb).ct,v],.int .i64 0])∧bG w' w.heap.size v (bZ N g n aD tb).sg)∧(e1≠0→en= .returned (.tuple #[.agg #[.int .i64 0,.int .i64 0,.slice none 0 0],.int .i64 e1]))
set_option maxRecDepth 100000 in
theorem Tryz.zvX {w:World} {P L Bs B N:Nat} {g:Nat→Int} {r:Rg} (st:bP w P L Bs B N g) (hN:N≤1048576) (hr:jG r) (hfit:4096+16*r.n≤N) {aD:Int} {wp:Bool} (ha:0≤aD∧aD<r.n) (tb:Bool):
    Calls prog 114 #[.pointer (some ⟨P,0,none⟩),r.gJ,bQ aD wp,.bool tb] w fun en w'=>abo N g r.n aD tb w en w':=by
  have hrf:=fun w'=>zp1 hr P w';have hpc:=fun w'=>zpU (x:=wp) hr.bnd ha w';unfold Rg.gJ at hrf ⊢;unfold bQ;have k5:=((Cl.new w #[.bool true,.int .i64 r.n,.int .u64 r.d,.int .u64 r.v,.int .u64 r.c] 31).alloc (Obj.cells #[.int .i64 aD,.bool wp] 35)).alloc (Obj.cells #[.int .i64 0,.int .i64 0,.slice none 0 0] 122);have k6:=(Cl.new2 (w:=w.alloc (Obj.cells #[.bool true,.int .i64 r.n,.int .u64 r.d,.int .u64 r.v,.int .u64 r.c] 31)) (b:=w.heap.size+1) (arr:= #[.int .i64 aD,.bool wp]) (t:=35) (by simp)).alloc (Obj.cells #[.int .i64 0,.int .i64 0,.slice none 0 0] 122);have k8:=Cl.new2 (b:=w.heap.size+1+1) (arr:= #[.int .i64 0,.int .i64 0,.slice none 0 0]) (t:=122) (w:=(w.alloc (Obj.cells #[.bool true,.int .i64 r.n,.int .u64 r.d,.int .u64 r.v,.int .u64 r.c] 31)).alloc (Obj.cells #[.int .i64 aD,.bool wp] 35)) (by simp);have x0:=k5.cell 0 _ rfl;have x1:=k5.cell 1 _ rfl;have x2:=k5.cell 2 _ rfl;have x3:=k5.cell 3 _ rfl;have x4:=k5.cell 4 _ rfl;go_enter func114,ntmps114;go_wp2_with (first
    | (go_at_call 135;refine (hrf _).mono ?_;rintro en w1 ⟨rfl,hb1⟩;have j5:=k5.below hb1 k5.lt;have j6:=k6.below hb1 k6.lt;have j8:=k8.below hb1 k8.lt;have d50:=j5.cell 0 _ rfl;have d51:=j5.cell 1 _ rfl;have d60:=j6.cell 0 _ rfl;have d61:=j6.cell 1 _ rfl)
    | (go_at_call 63;refine (hpc _).mono ?_;rintro en w2 ⟨rfl,hb2⟩)
    | go_in)
  rename_i K hK;have u7:Below w.heap.size w w2:=by
    have z:Below w.heap.size w (((w.alloc (Obj.cells #[.bool true,.int .i64 r.n,.int .u64 r.d,.int .u64 r.v,.int .u64 r.c] 31)).alloc (Obj.cells #[.int .i64 aD,.bool wp] 35)).alloc (Obj.cells #[.int .i64 0,.int .i64 0,.slice none 0 0] 122)):=(((yah _ w).alloc (yab _) _).alloc (by simp) _).alloc (by simp;omega) _;exact (z.trans (hb1.mono z.size)).trans (hb2.mono (yaw z.size hb1.size))
  have hs2:w.heap.size+3≤w2.heap.size:=by
    have h1:=hb1.size;have h2:=hb2.size;simp at h1;omega
  have i5:=j5.below hb2 j5.lt;have i6:=j6.below hb2 j6.lt;have i8:=j8.below hb2 j8.lt;have hb5:Below w2.heap.size w2 ((w2.alloc (Obj.cells #[.pointer (some ⟨P,0,none⟩),.slice none 0 0,.int .i64 0,.int .i64 0] 190)).alloc (Obj.cells #[.int .i64 0,.int .i64 0,.slice none 0 0] 122)):=((yah _ w2).alloc (yab _) _).alloc (by simp) _;have kX:=(Cl.new w2 #[.pointer (some ⟨P,0,none⟩),.slice none 0 0,.int .i64 0,.int .i64 0] 190).alloc (Obj.cells #[.int .i64 0,.int .i64 0,.slice none 0 0] 122);have kT:=Cl.new2 (w:=w2.alloc (Obj.cells #[.pointer (some ⟨P,0,none⟩),.slice none 0 0,.int .i64 0,.int .i64 0] 190)) (b:=w2.heap.size+1) (arr:= #[.int .i64 0,.int .i64 0,.slice none 0 0]) (t:=122) (by simp);have e5:((w2.alloc (Obj.cells #[.pointer (some ⟨P,0,none⟩),.slice none 0 0,.int .i64 0,.int .i64 0] 190)).alloc (Obj.cells #[.int .i64 0,.int .i64 0,.slice none 0 0] 122)).heap.size=w2.heap.size+2:=by simp
  generalize (w2.alloc (Obj.cells #[.pointer (some ⟨P,0,none⟩),.slice none 0 0,.int .i64 0,.int .i64 0] 190)).alloc (Obj.cells #[.int .i64 0,.int .i64 0,.slice none 0 0] 122)=w5 at hb5 kX kT e5 ⊢;have lP:=st.pl;have lL:=st.ll;have lS:=st.sl;have lB:=st.bl;have hR0:kQ w w5 w2.heap.size w.heap.size (w.heap.size+1) (w.heap.size+1+1) (w2.heap.size+1) (w2.heap.size+2) P L Bs B N g r (.slice none 0 0) [] 0 aD wp 0 0:=
    ⟨kX,bG.nil _ _,(st.kept (fun k hk _=>u7.block k hk) u7.size).below hb5,i5.below hb5 i5.lt,i6.below hb5 i6.lt,i8.below hb5 i8.lt,kT,u7.trans (hb5.mono u7.size),⟨by omega,by omega,by omega,by omega,by omega,by omega,by omega,by omega,by omega⟩,⟨by omega,by omega,by omega,by omega⟩,⟨⟨by omega,by omega,by omega,by omega⟩,⟨by omega,by omega,by omega⟩,by omega,by omega⟩,⟨by omega,by omega,by omega,by omega⟩,⟨by omega,by omega,by omega,by omega⟩,⟨by omega,by omega,by omega,by omega⟩,by omega⟩
  obtain ⟨X,hX⟩: ∃X,X=w2.heap.size:=⟨_,rfl⟩;obtain ⟨dP,hT⟩: ∃T,T=w2.heap.size+1:=⟨_,rfl⟩;rw [←hT] at hR0 ⊢;generalize w2.heap.size+2=b2 at hR0 e5;rw [←hX] at hR0 ⊢;clear hX hT kX kT i5 i6 i8 hb5 e5 u7 hs2 hb1 hb2 j5 j6 j8 k5 k6 k8 x0 x1 x2 x3 x4 d50 d51 d60 d61 hrf hpc;obtain ⟨T5,hT5⟩: ∃X,X=w.heap.size:=⟨_,rfl⟩;obtain ⟨T6,QJ⟩: ∃X,X=w.heap.size+1:=⟨_,rfl⟩;obtain ⟨T8,QK⟩: ∃X,X=w.heap.size+1+1:=⟨_,rfl⟩;have ab9:Below w.heap.size w w5:=hR0.old;have hsize:True:=trivial;rw [←QK,←QJ] at hR0 ⊢;clear QJ QK;have hend: ∀(tm:Array Value) (w3:World) (v:Value) (l:List Sg) (e aP:Int) (wp1:Bool) (id ct:Int),tm.size=134→tm.getD 5 undef= .pointer (some ⟨w.heap.size,0,none⟩)→tm.getD 8 undef= .pointer (some ⟨T8,0,none⟩)→tm.getD 9 undef= .int .i64 0→tm.getD 11 undef= .pointer (some ⟨X,0,none⟩)→tm.getD 12 undef= .pointer (some ⟨dP,0,none⟩)→kQ w w3 X w.heap.size T6 T8 dP b2 P L Bs B N g r v l e aP wp1 id ct→
      ((¬ e=0∧(fD N g r.n tb r.n.toNat aD 0 [] 0).e≠0)∨(e=0∧fD N g r.n tb r.n.toNat aD 0 [] 0=⟨id,ct,l,0⟩∧(∀x∈l,x.ok)))→l.length≤1000→K ⟨tm,[]⟩ w3:=by
    intro tm w3 v l e aP wp1 id ct y1 y5 y8 y9 zT vP hR hfin hlen;refine hK _ _ ?_;clear hK;obtain ⟨jf,eH⟩:=zyb (t:=tm) y1 y5 y8 y9 zT vP;rw [eH];clear eH;have aar:w.heap.size≤b2:=by have:=hR.hi;have:=hR.lo;omega
    refine wp_seq_k (fun K2 hK2=> ?_);have QY: ∀(tm:Array Value) (w4:World) (e2:Int),tm.size=134→tm.getD 5 undef= .pointer (some ⟨w.heap.size,0,none⟩)→tm.getD 8 undef= .pointer (some ⟨T8,0,none⟩)→tm.getD 9 undef= .int .i64 0→tm.getD 11 undef= .pointer (some ⟨X,0,none⟩)→tm.getD 12 undef= .pointer (some ⟨dP,0,none⟩)→kQ w w4 X w.heap.size T6 T8 dP b2 P L Bs B N g r v l e2 aP wp1 id ct→
        ((¬ e2=0∧(bZ N g r.n aD tb).e≠0)∨(e2=0∧bZ N g r.n aD tb=(if iC N l≠0 then ⟨0,0,[],iC N l⟩ else ⟨id,ct,l,0⟩)∧(∀x∈l,x.ok)))→K2 ⟨tm,[]⟩ w4:=by
      clear hfin hR;intro tm w4 e2 y1 y5 y8 y9 zT vP hR hfin;refine hK2 _ _ ?_;clear hK2;obtain ⟨jf,eH⟩:=zyb (t:=tm) y1 y5 y8 y9 zT vP;rw [eH];clear eH;have hen:=zzw hR.rd hN (fun q=>by
        rcases hfin with ⟨h1,_⟩|⟨_,_,h3⟩
        · exact absurd q h1
        · exact h3) (by omega)
      obtain ⟨E1,hE1⟩: ∃E1,E1=(if e2=0 then iC N l else e2):=⟨_,rfl⟩;have hen':Calls prog 140 #[.pointer (some ⟨X,0,none⟩)] w4 fun en w'=>en= .returned (.tuple #[if E1=0 then v else .slice none 0 0,.int .i64 E1])∧fT w4 w' X b2 P L Bs B N g v v l 0 E1:=hen.mono fun en w' hh=>by
        obtain ⟨e1,h1,h2,h3⟩:=hh;rw [←hE1] at h1;subst h1;exact ⟨h2,h3⟩
      clear hen;have hiff:E1=0→bZ N g r.n aD tb=⟨id,ct,l,0⟩:=fun q=>by
        rcases hfin with ⟨h1,h2⟩|⟨h1,h2,_⟩
        · rw [yai h1] at hE1;exact absurd (hE1.symm.trans q) h1
        · rw [yaj h1] at hE1;rw [h2,yai (by rw [←hE1];exact fun z=>z q)]
      have KO:E1≠0→(bZ N g r.n aD tb).e≠0:=fun q=>by
        rcases hfin with ⟨h1,h2⟩|⟨h1,h2,_⟩
        · exact h2
        · rw [yaj h1] at hE1;rw [h2,yaj (by rw [←hE1];exact q)];rw [←hE1];exact q
      clear hE1 hfin;obtain ⟨sa,c,rfl,_⟩:=hR.own.slice;by_cases h0:E1=0
      · have hpk:=hiff h0;rw [yaj h0,h0] at hen';clear hiff KO;go_wp2_with (first
          | (go_at_call 140;refine hen'.mono ?_;rintro en w6 ⟨rfl,hrd⟩;have h5:=hR.turn hrd;have n128:=h5.ne.2.1.2.2;have s12:=h5.c12.set 2 (.slice sa l.length c) (by simp);have q2:=h5.c12.cell 2 _ rfl;have g2:=h5.c12.free 2;have a0:=s12.cell 0 _ rfl;have a1:=s12.cell 1 _ rfl;have a2:=s12.cell 2 _ rfl;have s8:=h5.c8.kept (yac w6 ⟨dP,2,none⟩ (.slice sa l.length c) T8 (fun e=>n128 e.symm));have b0:=s8.cell 0 _ rfl;have b1:=s8.cell 1 _ rfl;have b2':=s8.cell 2 _ rfl;have r0:=s8.free 0;have r1:=s8.free 1;have r2:=s8.free 2)
          | go_in)
        have sf:=((s8.set 0 (.int .i64 id) (by simp)).set 1 (.int .i64 ct) (by simp)).set 2 (.slice sa l.length c) (by simp);have kp: ∀b,b≠dP→b≠T8→((((w6.setCell ⟨dP,2,none⟩ (.slice sa l.length c)).setCell ⟨T8,0,none⟩ (.int .i64 id)).setCell ⟨T8,1,none⟩ (.int .i64 ct)).setCell ⟨T8,2,none⟩ (.slice sa l.length c)).heap[b]? =w6.heap[b]? :=fun b h1 h2=>(yac _ ⟨T8,2,none⟩ _ b h2).trans ((yac _ ⟨T8,1,none⟩ _ b h2).trans ((yac _ ⟨T8,0,none⟩ _ b h2).trans (yac _ ⟨dP,2,none⟩ _ b h1)));have hlo:=h5.lo;have hhi:=h5.hi;have hos:=h5.old;have iK:=h5.own;refine yaP (iq rfl _ _ T8 [.int .i64 id,.int .i64 ct,.slice sa l.length c] _ rfl (fun j y hy=>by rw [yau];exact sf.cell j y hy) underlying122 rfl (by kernel_rfl)) rfl ?_;refine ⟨⟨hos.os,hos.tape,hos.output,by simpa using hos.size,fun b hb=>(kp b (fun e=>by omega) (fun e=>by omega)).trans (hos.block b hb)⟩,0,.slice sa l.length c,⟨fun _=>by rw [hpk],fun _=>rfl⟩,fun _=>⟨by rw [hpk];rfl,?_⟩,fun q=>absurd rfl q⟩;rw [hpk];exact bG.mono (iK.kept fun b e=>kp b (fun q=>by have:=(iK.lt b e).1;omega) (fun q=>by have:=(iK.lt b e).1;omega)) aar
      · have hpk:=KO h0;rw [yai h0] at hen';clear hiff KO;go_wp2_with (first
          | (go_at_call 140;refine hen'.mono ?_;rintro en w6 ⟨rfl,hrd⟩;have h5:=hR.turn hrd;have n128:=h5.ne.2.1.2.2;have s12:=h5.c12.set 2 (.slice none 0 0) (by simp);have q2:=h5.c12.cell 2 _ rfl;have g2:=h5.c12.free 2;have a0:=s12.cell 0 _ rfl;have a1:=s12.cell 1 _ rfl;have a2:=s12.cell 2 _ rfl;have s8:=h5.c8.kept (yac w6 ⟨dP,2,none⟩ (.slice none 0 0) T8 (fun e=>n128 e.symm));have b0:=s8.cell 0 _ rfl;have b1:=s8.cell 1 _ rfl;have b2':=s8.cell 2 _ rfl;have r0:=s8.free 0;have r1:=s8.free 1;have r2:=s8.free 2)
          | go_in)
        have sf:=((s8.set 0 (.int .i64 0) (by simp)).set 1 (.int .i64 0) (by simp)).set 2 (.slice none 0 0) (by simp);have kp: ∀b,b≠dP→b≠T8→((((w6.setCell ⟨dP,2,none⟩ (.slice none 0 0)).setCell ⟨T8,0,none⟩ (.int .i64 0)).setCell ⟨T8,1,none⟩ (.int .i64 0)).setCell ⟨T8,2,none⟩ (.slice none 0 0)).heap[b]? =w6.heap[b]? :=fun b h1 h2=>(yac _ ⟨T8,2,none⟩ _ b h2).trans ((yac _ ⟨T8,1,none⟩ _ b h2).trans ((yac _ ⟨T8,0,none⟩ _ b h2).trans (yac _ ⟨dP,2,none⟩ _ b h1)));have hlo:=h5.lo;have hhi:=h5.hi;have hos:=h5.old;have iK:=h5.own;refine yaP (iq rfl _ _ T8 [.int .i64 0,.int .i64 0,.slice none 0 0] _ rfl (fun j y hy=>by rw [yau];exact sf.cell j y hy) underlying122 rfl (by kernel_rfl)) rfl ?_;exact ⟨⟨hos.os,hos.tape,hos.output,by simpa using hos.size,fun b hb=>(kp b (fun e=>by omega) (fun e=>by omega)).trans (hos.block b hb)⟩,E1,.slice none 0 0,⟨fun q=>absurd q h0,fun q=>absurd q hpk⟩,fun q=>absurd q h0,fun _=>rfl⟩
    clear hK2;have c50:=hR.c5.cell 1 _ rfl;have abN:=hR.c12.cell 0 _ rfl;by_cases hid:r.n≤id
    · have hsp:=Dk X (.pointer (some ⟨P,0,none⟩)) v 0 e 4 w3 hR.cl;go_wp2_with (first
        | (go_at_call 136;refine hsp.mono ?_;rintro en w4 ⟨rfl,hc4,xu⟩)
        | go_in)
      refine QY _ _ (tJ e 4) rfl rfl rfl rfl rfl rfl (hR.turn (hR.rd.stopped hc4 xu)) (.inl ⟨?_,?_⟩)
      · unfold tJ;split
        · decide
        · assumption
      · unfold bZ;rcases hfin with ⟨h1,h2⟩|⟨h1,h2,_⟩
        · simp only [];rw [yaj h2];exact h2
        · simp only [h2];rw [yai (by simp),yaj hid];decide
    · go_wp2_with fail;refine QY _ _ e rfl rfl rfl rfl rfl rfl hR ?_;rcases hfin with ⟨h1,h2⟩|⟨h1,h2,h3⟩
      · refine .inl ⟨h1,?_⟩;unfold bZ;simp only [];rw [yaj h2];exact h2
      · refine .inr ⟨h1,?_,h3⟩;unfold bZ;simp only [h2];rw [yai (by simp),yai (show¬r.n≤id by omega)]
  clear hK;have hn1:=hr.bnd;obtain ⟨m,hm⟩: ∃m:Nat,r.n=m:=⟨r.n.toNat,by omega⟩;have hmt:r.n.toNat=m:=by rw [hm];rfl
  have hd0:r.d=4096:=hr.d;rw [hmt] at hend;have Hm:(fun _:Unit=>r.n)=fun _=>(m:Int):=by rw [hm]
  have hm1:r.n≤m:=by omega
  have hm2:(m:Int)≤r.n:=by omega
  have hda: ∀x:Int,r.d+16*x=4096+16*x:=fun x=>by rw [hd0]
  clear hm hmt hd0;go_loopw [13] (fun _ wr=> ∃(v:Value) (l:List Sg) (aP:Int) (wp1:Bool) (id:Int) (c:Nat),kQ w wr X w.heap.size T6 T8 dP b2 P L Bs B N g r v l 0 aP wp1 id c∧c≤m∧l.length=c∧(∀x∈l,x.ok)∧(0≤aP∧aP<r.n)∧(fun _:Unit=>fD N g r.n tb m aD 0 [] 0)=fun _=>fD N g r.n tb (m-c) aP c l id) (fun _ wr=>match wr.cell? ⟨dP,1,none⟩ with|some (.int _ x)=>m-x.toNat|_=>0)
  case atStart=>exact ⟨.slice none 0 0,[],aD,wp,0,0,hR0,yaE _,rfl,fun x hx=>(by cases hx),ha,rfl⟩
  case round=>
    obtain ⟨v,l,aP,wp1,id,c,hR,hc,hl,hok,hat,heq⟩:=hrel;have y50:=hR.c5.cell 1 _ rfl;have y51:=hR.c5.cell 2 _ rfl;have y60:=hR.c6.cell 0 _ rfl;have vP:=hR.c12.cell 1 _ rfl;by_cases hcm:c=m
    · have hcm':(c:Int)=r.n:=by omega
      have hsp:=Dk X (.pointer (some ⟨P,0,none⟩)) v 0 0 4 wr hR.cl;go_wp2_with (first
        | (go_at_call 136;refine hsp.mono ?_;rintro en w4 ⟨rfl,hc4,xu⟩)
        | go_in)
      refine hend _ _ v l 4 aP wp1 id c rfl rfl rfl rfl rfl rfl (hR.turn (hR.rd.stopped hc4 xu)) (.inl ⟨by decide,?_⟩) (by omega);rw [ybu heq (),hcm,yb8];show (4:Int)≠0;decide
    · have hcm': ¬(c:Int)=r.n:=by omega
      have hcl:c<m:=by omega
      obtain ⟨a,wX⟩: ∃a:Nat,4096+16*aP=a:=⟨(4096+16*aP).toNat,by omega⟩;have wY:(4096+16*aP).toNat=a:=by rw [wX];rfl
      have hbyte:=hR.rm.byte;have haN:a+16≤N:=by omega
      have hstep:fD N g r.n tb (m-c) aP c l id=(if ax g (a+14) 2/4%2=1 then (if tb=false∨1<(c:Int)+1∨ax g (a+14) 2%2=1 then ⟨ax g (a+12) 2,(c:Int)+1,l,4⟩ else ⟨ax g (a+12) 2,(c:Int)+1,(gT N g (ax g a 8) (ax g (a+8) 4)).1,(gT N g (ax g a 8) (ax g (a+8) 4)).2⟩) else if ax g (a+14) 2%2=0 then ⟨ax g (a+12) 2,(c:Int)+1,l++ [jv g a],0⟩ else fD N g r.n tb (m-(c+1)) (aZ r.n aP true 1).1 ((c:Int)+1) (l++ [jv g a]) (ax g (a+12) 2)):=by
        rw [show m-c=(m-(c+1))+1 by omega,←wY];rfl
      have RF:jv g a=⟨ax g a 8,ax g (a+8) 4,ax g (a+14) 2/2%2*2 !=0⟩:=rfl;have zC:=O5 hbyte a;rw [RF] at hstep zC;have heq2:=ybu heq ();rw [hstep] at heq2;clear hstep heq RF wY;have hpos:(aZ r.n aP true 1).1=(aZ r.n aP wp1 1).1:=by unfold aZ;split<;>rfl
      have RB:0≤(aZ r.n aP wp1 1).1∧(aZ r.n aP wp1 1).1<r.n:=by unfold aZ;split<;>exact ⟨by simp only [];omega,by simp only [];omega⟩
      rw [hpos] at heq2;clear hpos;have hrd:=zrC P L Bs B N a 16 g wr hR.rm hN (by decide) haN;have nE:=fun X' c' w' (hq:w'.rangeAt X' 0 (row g a 16))=>VH hbyte a X' 0 c' w' hq;have hgo:=fun w'=>IE (x:=wp1) (show 1≤r.n∧r.n≤32768 by omega) hat (show (0:Int)≤1∧(1:Int)≤r.n by omega) w';have bA:=lg g hbyte a 8;have bL:=lg g hbyte (a+8) 4;have bI:=lg g hbyte (a+12) 2;have bF:=lg g hbyte (a+14) 2;rw [show (256:Int)^8=18446744073709551616 from by decide] at bA;rw [show (256:Int)^4=4294967296 from by decide] at bL;rw [show (256:Int)^2=65536 from by decide] at bI bF;unfold DT at nE;unfold bQ at hgo;generalize aZ r.n aP wp1 1=pg at hgo RB heq2;generalize ax g a 8=A1 at nE heq2 zC bA;generalize ax g (a+8) 4=L1 at nE heq2 zC bL;generalize ax g (a+12) 2=I1 at nE heq2 bI;generalize ax g (a+14) 2=F1 at nE heq2 zC bF;obtain ⟨a8,rfl⟩:=yaT bA.1;have w1':IntKind.wrap .u64 aP=aP:=cZ (by omega) (by omega);have w2':IntKind.wrap .u64 (16*aP)=16*aP:=cZ (by omega) (by omega);have w3':IntKind.wrap .u64 (r.d+16*aP)=a:=by rw [hda,wX];exact cZ (by omega) (by omega)
      have w4':IntKind.wrap .i64 I1=I1:=gy (by omega) (by omega);have ab0:bits .and .u16 F1 4=F1/4%2*4:=by have:=IZ F1 2 (by decide) bF.1 bF.2;simpa using this
      have abZ:bits .and .u16 F1 1=F1%2:=by have:=IZ F1 0 (by decide) bF.1 bF.2;simpa using this
      clear wX hda;have hD:=fun w2=>Cl.new w2 #[.int .u64 (a8:Int),.int .u32 L1,.int .u16 I1,.int .u16 F1] 60;have hsp:=fun w' (h:Cl w' X [.pointer (some ⟨P,0,none⟩),v,.int .i64 0,.int .i64 0])=>Dk X (.pointer (some ⟨P,0,none⟩)) v 0 0 4 w' h;have hcases:(F1/4%2=1∧tb=false∧(fun _:Unit=>fD N g r.n tb m aD 0 [] 0)=fun _=>⟨I1,(c:Int)+1,l,4⟩)∨(F1/4%2=1∧tb=true∧(1:Int)<(c:Int)+1∧(fun _:Unit=>fD N g r.n tb m aD 0 [] 0)=fun _=>⟨I1,(c:Int)+1,l,4⟩)∨(F1/4%2=1∧tb=true∧ ¬(1:Int)<(c:Int)+1∧F1%2=1∧(fun _:Unit=>fD N g r.n tb m aD 0 [] 0)=fun _=>⟨I1,(c:Int)+1,l,4⟩)∨
          (F1/4%2=1∧tb=true∧ ¬(1:Int)<(c:Int)+1∧F1%2=0∧l= []∧(fun _:Unit=>fD N g r.n tb m aD 0 [] 0)=fun _=>⟨I1,(c:Int)+1,(gT N g a8 L1).1,(gT N g a8 L1).2⟩)∨(F1/4%2=0∧F1%2=0∧(fun _:Unit=>fD N g r.n tb m aD 0 [] 0)=fun _=>⟨I1,(c:Int)+1,l++ [⟨a8,L1,F1/2%2*2 !=0⟩],0⟩)∨(F1/4%2=0∧F1%2=1∧(fun _:Unit=>fD N g r.n tb m aD 0 [] 0)=fun _=>fD N g r.n tb (m-(c+1)) pg.1 ((c:Int)+1) (l++ [⟨a8,L1,F1/2%2*2 !=0⟩]) I1):=by
        rw [heq2];by_cases zi:F1/4%2=1
        · rw [yaj zi];cases tb with
          | false=>exact .inl ⟨zi,rfl,by rw [yaj (.inl rfl)]⟩
          | true=>
            by_cases h1:(1:Int)<(c:Int)+1
            · exact .inr (.inl ⟨zi,rfl,h1,by rw [yaj (.inr (.inl h1))]⟩)
            · by_cases h2:F1%2=1
              · exact .inr (.inr (.inl ⟨zi,rfl,h1,h2,by rw [yaj (.inr (.inr h2))]⟩))
              · exact .inr (.inr (.inr (.inl ⟨zi,rfl,h1,by omega,ybn.1 (by omega),by rw [yai (by intro q;rcases q with q|q|q;cases q;exact h1 q;exact h2 q)]⟩)))
        · rw [yai zi];by_cases h2:F1%2=0
          · exact .inr (.inr (.inr (.inr (.inl ⟨by omega,h2,by rw [yaj h2]⟩))))
          · exact .inr (.inr (.inr (.inr (.inr ⟨by omega,by omega,by rw [yai h2]⟩))))
      clear heq2;rcases hcases with ⟨k1,rfl,k4⟩|⟨k1,rfl,k2,k4⟩|⟨k1,rfl,k2,k3,k4⟩|⟨k1,rfl,k2,k3,rfl,k4⟩|⟨k1,k3,k4⟩|⟨k1,k3,k4⟩
      all_goals
        go_wp2_with (first
          | (go_at_call 137;refine hrd.mono ?_;rintro en w1 ⟨vb,rfl,hrow,hb1⟩;obtain ⟨G,cp,rfl,BS⟩:=Mx hrow)
          | (go_at_call 18;refine (nE _ _ _ BS).mono ?_;rintro en w2 ⟨rfl,hb2⟩;have qp:=((hR.below hb1).below hb2).below ((yah _ w2).alloc (yab _) (Obj.cells #[.int .u64 (a8:Int),.int .u32 L1,.int .u16 I1,.int .u16 F1] 60));have kD:=hD w2;have z0:=kD.cell 2 _ rfl;have t0:=qp.c12.cell 0 _ rfl;have t1:=qp.c12.cell 1 _ rfl;have f0:=qp.c12.free 0;have f1:=qp.c12.free 1;have Kk:=qp.Tj (j:=0) (x:= .int .i64 I1) (id':=I1) (lZ:=c) (by decide) rfl;have t2:=Kk.c12.cell 1 _ rfl;have f2:=Kk.c12.free 1;have EW:=Kk.Tj (j:=1) (x:= .int .i64 ((c:Int)+1)) (id':=I1) (lZ:=(c:Int)+1) (by decide) rfl;have p0:=EW.c6.cell 0 _ rfl;have p1:=EW.c6.cell 1 _ rfl;have n1':=EW.c5.cell 1 _ rfl;have Qx:w2.heap.size≠dP:=(by have:=hR.lo;have:=hR.b2;have:=hb1.size;have:=hb2.size;omega);have Qy:w2.heap.size≠T6:=(by have:=hR.lo;have:=hR.b2;have:=hb1.size;have:=hb2.size;omega);have R4:=(kD.kept (yac _ ⟨dP,0,none⟩ (.int .i64 I1) w2.heap.size Qx)).kept (yac _ ⟨dP,1,none⟩ (.int .i64 ((c:Int)+1)) w2.heap.size Qx))
          | (go_at_call 20;refine (hgo _).mono ?_;rintro en w5 ⟨rfl,hb5⟩;have BB:=EW.below hb5;have kD5:=R4.below hb5 R4.lt;have q0:=BB.c6.cell 0 _ rfl;have q1:=BB.c6.cell 1 _ rfl;have g0:=BB.c6.free 0;have g1:=BB.c6.free 1;have mg:=BB.abD (aP:=pg.1) (wp1:=pg.2);have Ch:=(kD5.kept (yac _ ⟨T6,0,none⟩ (.int .i64 pg.1) w2.heap.size Qy)).kept (yac _ ⟨T6,1,none⟩ (.bool pg.2) w2.heap.size Qy);have d0:=Ch.cell 0 _ rfl;have d1:=Ch.cell 1 _ rfl;have d3:=Ch.cell 3 _ rfl;have t6:=mg.c12.cell 1 _ rfl)
          | (go_at_call 136;refine (hsp _ mg.cl).mono ?_;rintro en w7 ⟨rfl,qx,kG⟩)
          | (go_at_call 138;refine (zzd mg.rd hN bA.2 bL).mono ?_;rintro en w7 ⟨rfl,v7,l7,e7,aaY,ab5,QU,Rl⟩)
          | (go_at_call 139;refine (zvS X b2 (.pointer (some ⟨P,0,none⟩)) v 0 0 a8 L1 F1 l _ mg.cl mg.own mg.b2 mg.lo.1 (by omega) bF).mono ?_;rintro en w7 ⟨rfl,v7,qx,ho7,kG,hv7⟩;have Kl:=mg.turn (mg.rd.Ti qx ho7 kG hv7);have kD7:Cl w7 w2.heap.size _:=Ch.kept (kG.block _ Ch.lt fun q=>by
               have u1:=hR.lo;have u2:=hR.b2;have u3:=hb1.size;have u4:=hb2.size;rcases q with q|q
               · omega
               · have:=(hR.own.lt _ q).2.1;omega)
             have d37:=kD7.cell 3 _ rfl)
          | go_in)
      · refine hend _ _ v l 4 pg.1 pg.2 I1 ((c:Int)+1) rfl rfl rfl rfl rfl rfl (mg.turn (mg.rd.stopped qx kG)) (.inl ⟨by decide,?_⟩) (by omega);rw [ybu k4 ()];show (4:Int)≠0;decide
      · refine hend _ _ v l 4 pg.1 pg.2 I1 ((c:Int)+1) rfl rfl rfl rfl rfl rfl (mg.turn (mg.rd.stopped qx kG)) (.inl ⟨by decide,?_⟩) (by omega);rw [ybu k4 ()];show (4:Int)≠0;decide
      · refine hend _ _ v l 4 pg.1 pg.2 I1 ((c:Int)+1) rfl rfl rfl rfl rfl rfl (mg.turn (mg.rd.stopped qx kG)) (.inl ⟨by decide,?_⟩) (by omega);rw [ybu k4 ()];show (4:Int)≠0;decide
      · refine hend _ _ v7 l7 e7 pg.1 pg.2 I1 ((c:Int)+1) rfl rfl rfl rfl rfl rfl (mg.turn aaY) ?_ (by omega);rw [ybu k4 ()];by_cases h0:e7=0
        · refine .inr ⟨h0,?_,?_⟩
          · rw [Rl h0,←QU,h0]
          · rw [Rl h0];exact (X3 hbyte bL.1).1
        · refine .inl ⟨h0,?_⟩;show (gT N g a8 L1).2≠0;rw [←QU];exact h0
      · refine hend _ _ v7 _ 0 pg.1 pg.2 I1 ((c:Int)+1) rfl rfl rfl rfl rfl rfl Kl (.inr ⟨rfl,ybu k4 (),fun x hx=> ?_⟩) (by simp;omega);rcases yaR.1 hx with hx|hx
        · exact hok x hx
        · rw [yaD] at hx;subst hx;exact zC
      · refine ⟨⟨v7,l++ [⟨a8,L1,F1/2%2*2 !=0⟩],pg.1,pg.2,I1,c+1,by push_cast;exact Kl,by omega,by simp;omega,fun x hx=> ?_,RB,by push_cast;exact k4⟩,?_⟩
        · rcases yaR.1 hx with hx|hx
          · exact hok x hx
          · rw [yaD] at hx;subst hx;exact zC
        · have e1:=Kl.c12.cell 1 _ rfl;rw [e1,vP];simp only [];omega
theorem Tryz.Y5 {tk:List (Int×bN)} {k:Nat} (hk:k<tk.length):gX (tk.take (k+1))=gX (tk.take k)+tk[k].2.ct:=by
 induction tk generalizing k with
 | nil=>simp at hk
 | cons e r ih=>
  cases k with
  | zero=>simp [gX]
  | succ k=>
   simp only [ycM,gX,ybB];rw [ih (by simpa using hk)];omega
theorem Tryz.zzI {n:Int} {tk:List (Int×bN)} (h: ∀e∈tk,1≤e.2.ct∧e.2.ct≤n) (k:Nat):0≤gX (tk.take k)∧gX (tk.take k)≤gX tk:=by
 induction tk generalizing k with
 | nil=>simp [gX]
 | cons e r ih=>
  have he:=h e (by simp);have hr:=fun k=>ih (fun e q=>h e (by simp [q])) k;cases k with
  | zero=>
   have:=hr r.length;rw [yb2] at this;simp only [List.take_zero,gX];omega
  | succ k=>
   simp only [ycM,gX];have:=hr k;omega
theorem Tryz.Ae {w:World} {b2:Nat} {v:Value} {l:List Sg} (h:bG w b2 v l) (hok: ∀x∈l,x.ok) {A:Nat→Prop} (hA: ∀b,b2≤b→b<w.heap.size→ ¬A b):aX A w v l:=by
 obtain ⟨sa,c,rfl,hR⟩:=h.slice;obtain ⟨fU,c2,e,h1,h2⟩:=h.xQ hok (A:=fun _=>False) fun _ _ q=>q;cases e;refine ⟨sa,c,rfl,h1,?_⟩;rcases h2 with h2|⟨R,o,rfl,_,h3⟩
 ·exact .inl h2
 ·have q:=h.lt R (hR R o rfl);exact .inr ⟨R,o,rfl,hA R q.1 q.2.1,h3⟩
structure Tryz.yS (a b:Int):Prop where
 eq:a=b
structure Tryz.JD (w wx:World) (T9:Nat) (iy eG:Int) (v:Value) (e1:Int) (t:Bd):Prop where
 bel:Below w.heap.size w wx
 box:Cl wx T9 [.int .i64 iy,.int .i64 eG,v]
 t9:w.heap.size<T9
 res:Cl wx w.heap.size [.int .i64 0,.int .i64 0,.int .i64 0]
 ch:(e1≠0∧t.e≠0∧eG=0)∨(e1=0∧t.e=0∧iy=t.id∧eG=t.ct∧aX (fun b=>b≤w.heap.size∨wx.heap.size≤b) wx v t.sg)
section
variable {w w1 w4:World} {iy eG e1:Int} {v:Value} {t:Tryz.Bd} {ty:TypeId}
theorem Tryz.zAY (hb1:Below w.heap.size w w1) (k1:Cl w1 w.heap.size [.int .i64 0,.int .i64 0,.int .i64 0]) (hb4:Below w1.heap.size w1 w4) (hok:t.e=0→ ∀x∈t.sg,x.ok) (H:(e1≠0∧t.e≠0∧eG=0)∨(e1=0∧t.e=0∧iy=t.id∧eG=t.ct∧bG w4 w1.heap.size v t.sg)):JD w (w4.alloc (.cells #[.int .i64 iy,.int .i64 eG,v] ty)) w4.heap.size iy eG v e1 t:=by
 have hs1:=k1.lt;have hs4:=hb4.size;have hba:=(yah w4.heap.size w4).alloc (yab _) (.cells #[.int .i64 iy,.int .i64 eG,v] ty);refine ⟨(hb1.trans (hb4.mono (by omega))).trans (hba.mono (by omega)),Cl.new w4 _ ty,by omega,(k1.below hb4 hs1).alloc _,H.imp_right fun ⟨h1,h2,h3,h4,h5⟩=>⟨h1,h2,h3,h4,?_⟩⟩;exact (Ae (A:=fun b=>b≤w.heap.size∨(w4.alloc (.cells #[.int .i64 iy,.int .i64 eG,v] ty)).heap.size≤b) h5 (hok h2) fun b q1 q2 hh=>by
  simp only [iP] at hh;omega).pG fun b hb _=>hba.block b hb
theorem Tryz.zyB {w0:World} (hb0:Below w.heap.size w w0) (hs0:w0.heap.size=w.heap.size+1) (k0:Cl w0 w.heap.size [.int .i64 0,.int .i64 0,.int .i64 0]) (hw1:w1=(w0.alloc (.cells #[.int .i64 0,.int .i64 0,.slice none 0 0] ty)).drew) (hb4:Below w1.heap.size w1 w4) (hok:t.e=0→ ∀x∈t.sg,x.ok) (H:(e1≠0∧t.e≠0∧eG=0)∨(e1=0∧t.e=0∧iy=t.id∧eG=t.ct∧bG w4 w1.heap.size v t.sg)):
  Cl w4 (w.heap.size+1) [.int .i64 0,.int .i64 0,.slice none 0 0]∧JD w (((w4.setCell ⟨w.heap.size+1,0,none⟩ (.int .i64 iy)).setCell ⟨w.heap.size+1,1,none⟩ (.int .i64 eG)).setCell ⟨w.heap.size+1,2,none⟩ v) (w.heap.size+1) iy eG v e1 t:=by
 have hba:=(yah w0.heap.size w0).alloc (yab _) (.cells #[.int .i64 0,.int .i64 0,.slice none 0 0] ty);have hs1:w1.heap.size=w.heap.size+2:=by rw [hw1];simp;omega
 have b1:Below w.heap.size w w1:=by rw [hw1];exact hb0.trans (hba.drew.mono (by omega))
 have k1:Cl w1 w.heap.size [.int .i64 0,.int .i64 0,.int .i64 0]:=by rw [hw1];exact (k0.alloc _).kept rfl
 have t1:Cl w1 (w.heap.size+1) [.int .i64 0,.int .i64 0,.slice none 0 0]:=by rw [hw1];exact (Cl.new2 (w:=w0) (arr:= #[.int .i64 0,.int .i64 0,.slice none 0 0]) hs0).kept rfl
 have hs4:=hb4.size;have t4:=t1.below hb4 t1.lt;have k4:=k1.below hb4 k1.lt;have hne: ∀b,b≠w.heap.size+1→(((w4.setCell ⟨w.heap.size+1,0,none⟩ (.int .i64 iy)).setCell ⟨w.heap.size+1,1,none⟩ (.int .i64 eG)).setCell ⟨w.heap.size+1,2,none⟩ v).heap[b]? =w4.heap[b]? :=fun b hb=>(yac _ ⟨w.heap.size+1,2,none⟩ _ b hb).trans ((yac _ ⟨w.heap.size+1,1,none⟩ _ b hb).trans (yac _ ⟨w.heap.size+1,0,none⟩ _ b hb));have b4:=b1.trans (hb4.mono (by omega));refine ⟨t4,⟨⟨b4.os,b4.tape,b4.output,by simpa using b4.size,fun b hb=>(hne b (by omega)).trans (b4.block b hb)⟩,((t4.set 0 (.int .i64 iy) (by simp)).set 1 (.int .i64 eG) (by simp)).set 2 v (by simp),by omega,k4.kept (hne _ (by omega)),H.imp_right fun ⟨h1,h2,h3,h4,h5⟩=>⟨h1,h2,h3,h4,?_⟩⟩⟩;exact (Ae (A:=fun b=>b≤w.heap.size+1∨w4.heap.size≤b) h5 (hok h2) fun b q1 q2 hh=>by omega).xR (A':=fun b=>b≤w.heap.size∨(((w4.setCell ⟨w.heap.size+1,0,none⟩ (.int .i64 iy)).setCell ⟨w.heap.size+1,1,none⟩ (.int .i64 eG)).setCell ⟨w.heap.size+1,2,none⟩ v).heap.size≤b) (fun b hb hh=>by simp at hh;omega) (fun b hb hn=>hne b fun e=>hn (.inl (by omega)))
end
set_option maxRecDepth 100000 in
theorem Tryz.XQ {A:Nat→Prop} {w:World} {S P L Bs B N b2:Nat} {r:Rg} {s s':PS} {g:Nat→Int} {lv:Value} (h:RW A w S P L Bs B N b2 r s g lv) (hb:s.br=false) (hp:s.ph=6) (hct: ∀e∈s.tk,1≤e.2.ct∧e.2.ct≤r.n) (hl:s.tk.length≤100000) {t:Bd} (ht:bZ N g r.n s.nx s.tb=t) {E:Int}
    (hE:((t.e≠0∨bY t.id s.tk≠none∨r.n<t.ct+s.ou)∧E=4∧s'=s.brk)∨((t.e=0∧bY t.id s.tk=none∧t.ct+s.ou≤r.n)∧E=0∧s'=({ s with tk:=s.tk++ [(t.id,⟨t.ct,t.sg⟩)],ou:=s.ou+t.ct,nx:=(aZ r.n s.nx s.nw t.ct).1,nw:=(aZ r.n s.nx s.nw t.ct).2,hd:=t.id,sg:=t.sg }:PS).stop)) (hpb:PB r s'):
    Calls prog 82 #[.pointer (some ⟨S,0,none⟩)] w fun e w'=>e= .returned (.tuple #[.agg #[.int .i64 1,.int .i64 0,.int .i64 0],.int .i64 E])∧ ∃dJ,RW A w' S P L Bs B N b2 r s' g dJ∧(∀b,dJ.ownBlock=some b→lv.ownBlock=some b∨w.heap.size≤b)∧Dw.Mv (fun b=>b=S∨lv.ownBlock=some b) w w':=by
  obtain ⟨sv,ct,vs,q1,q2,q3,q4⟩:=h.obj;have k2:=Cl.new w #[.int .i64 0,.int .i64 0,.int .i64 0] 77;have hbx:=(yah w.heap.size w).alloc (yab _) (Obj.cells #[.int .i64 0,.int .i64 0,.int .i64 0] 77);have p1:=q1.below hbx q1.lt;have c14:=p1.cell 14 _ rfl;have hat:s.bT=6:=by unfold PS.bT;rw [yaj (by omega),hp];rfl
  rw [hat] at c14;have hbn:=h.rg.bnd;have hnx:=h.pb.nx;have hou:=h.pb.ou;have hfit:=h.fit;have hpk: ∀w',bP w' P L Bs B N g→Calls prog 114 #[.pointer (some ⟨P,0,none⟩),r.gJ,bQ s.nx s.nw,.bool s.tb] w' fun en w4=>Below w'.heap.size w' w4∧ ∃(e1 iy eG:Int) (ig:Option Addr) (n0 c0:Nat),en= .returned (.tuple #[.agg #[.int .i64 iy,.int .i64 eG,.slice ig n0 c0],.int .i64 e1])∧((e1≠0∧t.e≠0∧eG=0)∨(e1=0∧t.e=0∧iy=t.id∧eG=t.ct∧n0=t.sg.length∧bG w4 w'.heap.size (.slice ig n0 c0) t.sg)):=fun w' hq=>by
    refine (zvX (wp:=s.nw) hq h.hN h.rg (by omega) hnx s.tb).mono fun en w4 hh=> ?_;obtain ⟨hb4,e1,v,h1,h2,h3⟩:=hh;rw [ht] at h1 h2;refine ⟨hb4,?_⟩;by_cases he:e1=0
    · obtain ⟨g1,g2⟩:=h2 he;obtain ⟨sa,c,rfl,_⟩:=g2.slice;exact ⟨e1,t.id,t.ct,sa,t.sg.length,c,by rw [g1,he],.inr ⟨he,h1.1 he,rfl,rfl,rfl,g2⟩⟩
    · exact ⟨e1,0,0,none,0,0,h3 he,.inl ⟨he,fun q=>he (h1.2 q),rfl⟩⟩
  unfold Rg.gJ bQ at hpk;have hts:=fun q=>OC (N:=N) h.rm.byte (n:=r.n) (aD:=s.nx) (tb:=s.tb) hbn.1 (ht.symm▸q);rw [ht] at hts;have Sw:Cl (w.alloc (Obj.cells #[.int .i64 0,.int .i64 0,.int .i64 0] 77)).drew S (s.aJ r P sv lv ct):=p1.kept rfl;have hby:=hbx.alloc (by simp) (Obj.cells #[.int .i64 0,.int .i64 0,.slice none 0 0] 122);have SA:Cl ((w.alloc (Obj.cells #[.int .i64 0,.int .i64 0,.int .i64 0] 77)).alloc (Obj.cells #[.int .i64 0,.int .i64 0,.slice none 0 0] 122)).drew S (s.aJ r P sv lv ct):=(q1.below hby q1.lt).kept rfl;have abz:=(h.rm.below hby).kept (w':=((w.alloc (Obj.cells #[.int .i64 0,.int .i64 0,.int .i64 0] 77)).alloc (Obj.cells #[.int .i64 0,.int .i64 0,.slice none 0 0] 122)).drew) (fun _ _ _=>rfl) (yab _);have Fx:w.heap.size+1≠S:=by have:=q1.lt;omega
  have LW:=(h.rm.below hbx).kept (w':=(w.alloc (Obj.cells #[.int .i64 0,.int .i64 0,.int .i64 0] 77)).drew) (fun _ _ _=>rfl) (yab _);have c0:=p1.cell 0 _ rfl;have c1:=p1.cell 1 _ rfl;have c2:=p1.cell 2 _ rfl;have c3:=p1.cell 3 _ rfl;have c4:=p1.cell 4 _ rfl;have c5:=p1.cell 5 _ rfl;have c7:=p1.cell 7 _ rfl;have c9:=p1.cell 9 _ rfl;have c10:=p1.cell 10 _ rfl;have nS:w.heap.size≠S:=by have:=q1.lt;omega
  have hT: ∀ {w'},Dw.Mv (· =S) w w'→uP A w' b2 lv s.tk vs:=fun {w'} hm=>q3.kept (fun b hb hn=>hm.block b hb fun e=>hn (by have e:b=S:=e;rw [e];exact h.aS)) (fun b e=>hm.block b (q3.2.1.choose_spec.lt b e).2 fun e2=>by have e2:b=S:=e2;have:=(q3.2.1.choose_spec.lt b e).1;have:=h.lo.1;omega);clear hat;go_enter func82,ntmps82;go_wp2_with fail;have Qt:=fun {w4:World} {e1 iy eG:Int} {ig:Option Addr} {n0 c0:Nat} hb4 hH=>zAY (w:=w) (w1:=(w.alloc (Obj.cells #[.int .i64 0,.int .i64 0,.int .i64 0] 77)).drew) (w4:=w4) (iy:=iy) (eG:=eG) (e1:=e1) (v:= .slice ig n0 c0) (t:=t) (ty:=122) hbx.drew (k2.kept rfl) hb4 (fun q=>(hts q).2.2.1) hH;have Qs:=fun {w4:World} {e1 iy eG:Int} {ig:Option Addr} {n0 c0:Nat} hb4 hH=>zyB (w:=w) (w1:=((w.alloc (Obj.cells #[.int .i64 0,.int .i64 0,.int .i64 0] 77)).alloc (Obj.cells #[.int .i64 0,.int .i64 0,.slice none 0 0] 122)).drew) (w4:=w4) (iy:=iy) (eG:=eG) (e1:=e1) (v:= .slice ig n0 c0) (t:=t) (ty:=122) hbx (by simp) k2 rfl hb4 (fun q=>(hts q).2.2.1) hH;go_cut [9,10] from 126 to 146 (fun s9 s10 wx=> ∃(T9:Nat) (e1 iy eG:Int) (ig:Option Addr) (n0 c0:Nat),s9= .pointer (some ⟨T9,0,none⟩)∧s10= .int .i64 e1∧JD w wx T9 iy eG (.slice ig n0 c0) e1 t)
  case first=>
    go_region_held3 (fun w'=>w'.cell? ⟨S,0,none⟩=some (.pointer (some ⟨P,0,none⟩))∧w'.cell? ⟨S,1,none⟩=some (.bool true)∧w'.cell? ⟨S,2,none⟩=some (.int .i64 r.n)∧w'.cell? ⟨S,3,none⟩=some (.int .u64 r.d)∧w'.cell? ⟨S,4,none⟩=some (.int .u64 r.v)∧w'.cell? ⟨S,5,none⟩=some (.int .u64 r.c)∧w'.cell? ⟨S,7,none⟩=some (.bool s.tb)∧w'.cell? ⟨S,9,none⟩=some (.int .i64 s.nx)∧w'.cell? ⟨S,10,none⟩=some (.bool s.nw)) (go_keep)
      ((first
        | (go_at_call 114;refine (hpk _ LW).mono ?_;rintro en w4 ⟨hb4,e1,iy,eG,ig,n0,c0',rfl,hH⟩;have fin:=Qt hb4 (hH.imp_right fun q=>⟨q.1,q.2.1,q.2.2.1,q.2.2.2.1,q.2.2.2.2.2⟩);have p4:=Sw.below hb4 Sw.lt;have d40:=p4.cell 0 _ rfl;have d41:=p4.cell 1 _ rfl;have d42:=p4.cell 2 _ rfl;have d43:=p4.cell 3 _ rfl;have d44:=p4.cell 4 _ rfl;have d45:=p4.cell 5 _ rfl;have d47:=p4.cell 7 _ rfl;have d49:=p4.cell 9 _ rfl;have Qi:=p4.cell 10 _ rfl)
        | (go_at_call 114;refine (hpk _ abz).mono ?_;rintro en w4 ⟨hb4,e1,iy,eG,ig,n0,c0',rfl,hH⟩;obtain ⟨t4,fin⟩:=Qs hb4 (hH.imp_right fun q=>⟨q.1,q.2.1,q.2.2.1,q.2.2.2.1,q.2.2.2.2.2⟩);have p4:=SA.below hb4 SA.lt;have d40:=p4.cell 0 _ rfl;have d41:=p4.cell 1 _ rfl;have d42:=p4.cell 2 _ rfl;have d43:=p4.cell 3 _ rfl;have d44:=p4.cell 4 _ rfl;have d45:=p4.cell 5 _ rfl;have d47:=p4.cell 7 _ rfl;have d49:=p4.cell 9 _ rfl;have Qi:=p4.cell 10 _ rfl;have t40:=t4.cell 0 _ rfl;have t41:=t4.cell 1 _ rfl;have t42:=t4.cell 2 _ rfl;have f40:=t4.free 0;have f41:=t4.free 1;have f42:=t4.free 2)))
    all_goals
      go_wp2_with fail;go_meet;exact ⟨_,_,_,_,_,_,_,rfl,rfl,fin⟩
  case rest=>
    obtain ⟨T9,e1,iy,eG,ig,n0,c0',rfl,rfl,hC⟩:=hcut;have hbel:=hC.bel;have p5:=q1.below hbel q1.lt;have t5:=hC.box;have x0:=t5.cell 0 _ rfl;have x1:=t5.cell 1 _ rfl;have x2:=t5.cell 2 _ rfl;have nT:T9≠S:=by have:=hC.t9;have:=q1.lt;omega
    have y2:=p5.cell 2 _ rfl;have y13:=p5.cell 13 _ rfl;have bct:0≤eG∧eG≤16:=by
      rcases hC.ch with ⟨_,_,q⟩|⟨_,q1',_,q2',_⟩
      · omega
      · have:=(hts q1').2.1;omega
    obtain ⟨q5,⟨ty,hrow⟩,q6⟩:=id q3;obtain ⟨sa,c,hlv,rE⟩:=aA.row hrow;rw [hlv] at y13;have hsum:=zzI hct;rw [←hou.1] at hsum;have hch:=hC.ch;have hcell: ∀(j:Nat) (hj:j<s.tk.length),∃G,sa=some ⟨G,0,none⟩∧wc.cell? ⟨G,j*3+1,none⟩=some (.int .i64 s.tk[j].2.ct):=fun j hj=>by
      rcases rE with hr|⟨G,hsa,lJ,hr⟩
      · have:=yaI List.length hr;rw [rO s.tk vs q5] at this;simp only [ybO] at this;omega
      · refine ⟨G,hsa,?_⟩;have e1:=hr _ _ (zV s.tk vs q5 j hj).2.1;rw [yau] at e1;exact (hbel.cell (p:=⟨G,j*3+1,none⟩) (hrow.lt G lJ).2).trans e1
    clear c0 c1 c2 c3 c4 c5 c7 c9 c10 rE Qt Qs hpk;go_wp2_with fail;go_loopw [11,12] (fun x y wr=>wr=wc∧ ∃(k:Nat) (X:Int),k≤s.tk.length∧x= .int .i64 X∧y= .int .i64 k∧yS X (eG+gX (s.tk.take k))) (fun _ y _=>s.tk.length-(RowKit.intOf y).toNat)
    case atStart=>exact ⟨rfl,0,eG,yaE _,rfl,rfl,⟨by simp [gX]⟩⟩
    case round=>
      obtain ⟨rfl,k,X,hk,rfl,rfl,hX⟩:=hrel;by_cases hkl:k<s.tk.length
      · have hkl':(k:Int)<s.tk.length:=by omega
        obtain ⟨G,hsa,hg⟩:=hcell k hkl;rw [hsa] at y13;have h1:=hsum k;have h2:=hsum (k+1);rw [Y5 hkl] at h2;have hX1:=hX.eq;have hXb:0≤X∧X≤100:=by omega
        have hcb:0≤s.tk[k].2.ct∧s.tk[k].2.ct≤16:=by have:=hct _ (yaS hkl);omega
        have hX2:yS (X+s.tk[k].2.ct) (eG+gX (s.tk.take (k+1))):=⟨by rw [Y5 hkl];omega⟩;have hw1:IntKind.wrap .i64 (X+s.tk[k].2.ct)=X+s.tk[k].2.ct:=gy (by omega) (by omega);clear hX hX1 h1 h2 hsum hct;generalize s.tk[k].2.ct=ck at hg hX2 hcb hw1;go_wp2;exact ⟨⟨trivial,k+1,X+ck,by omega,rfl,by push_cast;rfl,hX2⟩,by simp only [RowKit.intOf];omega⟩
      · have hkl': ¬(k:Int)<s.tk.length:=by omega
        have hX1:=hX.eq;have hke:k=s.tk.length:=by omega
        rw [hke,yb2,←hou.1] at hX1;have rA:yS X (eG+s.ou):=⟨hX1⟩;have hs0:=hsum 0;have bX:0≤X∧X≤100:=by omega
        clear hX hX1 hsum hke;have hdn:s.dn=false:=h.dn (.inl (by omega));have Ck:=hC.res;have Fa:=fun w6 (p6:Cl w6 S (s.aJ r P sv lv ct))=>zzs p6 1 0 0 0 hdn;have close: ∀ {w6 w7:World},Below wr.heap.size wr w6→s'=s.brk→Cl w7 S (s.brk.aJ r P (.slice none 0 0) lv ct)→Dw.Mv (· =S) w6 w7→Cl w7 w.heap.size [.int .i64 0,.int .i64 0,.int .i64 0]∧ ∃dJ,RW A (((w7.setCell ⟨w.heap.size,0,none⟩ (.int .i64 1)).setCell ⟨w.heap.size,1,none⟩ (.int .i64 0)).setCell ⟨w.heap.size,2,none⟩ (.int .i64 0)) S P L Bs B N b2 r s' g dJ∧(∀b,dJ.ownBlock=some b→lv.ownBlock=some b∨w.heap.size≤b)∧Dw.Mv (fun b=>b=S∨lv.ownBlock=some b) w (((w7.setCell ⟨w.heap.size,0,none⟩ (.int .i64 1)).setCell ⟨w.heap.size,1,none⟩ (.int .i64 0)).setCell ⟨w.heap.size,2,none⟩ (.int .i64 0)):=fun {w6 w7} hb6 hsb hc hm=>by
          have hbw:=hbel.trans (hb6.mono hbel.size);have hm1:Dw.Mv (· =S) w w7:=(jU hbw).trans hm;have hm2:=eD (eD (eD hm1 w.heap.size 0 (.int .i64 1) (.inr (yab _))) w.heap.size 1 (.int .i64 0) (.inr (yab _))) w.heap.size 2 (.int .i64 0) (.inr (yab _));subst hsb;have k6:=Ck.below hb6 Ck.lt;exact ⟨k6.kept (hm.block _ k6.lt nS),lv,h.vO hm2 (((hc.kept (yac _ ⟨w.heap.size,0,none⟩ _ S (fun e=>nS e.symm))).kept (yac _ ⟨w.heap.size,1,none⟩ _ S (fun e=>nS e.symm))).kept (yac _ ⟨w.heap.size,2,none⟩ _ S (fun e=>nS e.symm))) aX.none rfl (fun q=>absurd q (by show¬7≤0;omega)) hpb (fun _=>hdn),fun b e=> .inl e,hm2.mono fun b e=> .inl e⟩
        clear hdn hs0;have hmr:Dw.Mv (· =S) w wr:=jU hbel;have hfind:=fun i hi=>Gl (S:=S) (p5.cell 13 _ rfl) (hT hmr) hl t.id i hi;rcases hch with ⟨he1,he2,_⟩|⟨rfl,he2,rfl,rfl,hsg⟩
        · have hsb:E=4∧s'=s.brk:=by
            rcases hE with ⟨_,q⟩|⟨⟨q,_⟩,_⟩
            · exact q
            · exact absurd q he2
          obtain ⟨rfl,hsb⟩:=hsb;have hb1:(e1 !=0)=true:=by simpa using he1
          clear hE rA hfind;go_wp2_with (first
            | (go_at_call 108;refine (Fa _ p5).mono ?_;rintro en w7 ⟨rfl,qx,kG⟩;obtain ⟨kc,hfin⟩:=close (yah _ _) hsb qx kG;have b0:=kc.cell 0 _ rfl;have b1:=kc.cell 1 _ rfl;have b2':=kc.cell 2 _ rfl;have g0:=kc.free 0;have g1:=kc.free 1;have g2:=kc.free 2)
            | go_in)
          have sf:=((kc.set 0 (.int .i64 1) (by simp)).set 1 (.int .i64 0) (by simp)).set 2 (.int .i64 0) (by simp);refine yaP (iq rfl _ _ w.heap.size [.int .i64 1,.int .i64 0,.int .i64 0] _ rfl (fun j y hy=>by rw [yau];exact sf.cell j y hy) underlying77 rfl (by kernel_rfl)) rfl ?_;exact ⟨rfl,hfin⟩
        · have y2':=y2;cases hg:bY t.id s.tk with
          | some t0=>
            have hsb:E=4∧s'=s.brk:=by
              rcases hE with ⟨_,q⟩|⟨⟨_,q,_⟩,_⟩
              · exact q
              · rw [hg] at q;cases q
            obtain ⟨rfl,hsb⟩:=hsb;obtain ⟨j,hj,j1,j2,j3⟩:=CQ hg;have hf:=hfind j (.inr ⟨j,hj,rfl,j1,j3⟩);have hj0:(0:Int)≤(j:Int):=by omega
            clear hE rA hfind j1 j2 j3 hj hg;go_wp2_with (first
              | (go_at_call 77;refine hf.mono ?_;rintro en w6 ⟨rfl,hb6⟩;have p6:=p5.below hb6 p5.lt)
              | (go_at_call 108;refine (Fa _ p6).mono ?_;rintro en w7 ⟨rfl,qx,kG⟩;obtain ⟨kc,hfin⟩:=close hb6 hsb qx kG;have b0:=kc.cell 0 _ rfl;have b1:=kc.cell 1 _ rfl;have b2':=kc.cell 2 _ rfl;have g0:=kc.free 0;have g1:=kc.free 1;have g2:=kc.free 2)
              | go_in)
            have sf:=((kc.set 0 (.int .i64 1) (by simp)).set 1 (.int .i64 0) (by simp)).set 2 (.int .i64 0) (by simp);refine yaP (iq rfl _ _ w.heap.size [.int .i64 1,.int .i64 0,.int .i64 0] _ rfl (fun j y hy=>by rw [yau];exact sf.cell j y hy) underlying77 rfl (by kernel_rfl)) rfl ?_;exact ⟨rfl,hfin⟩
          | none=>
            have hf:=hfind (-1) (.inl ⟨rfl,CR hg⟩);clear hfind;by_cases hXn:X>r.n
            · have hsb:E=4∧s'=s.brk:=by
                rcases hE with ⟨_,q⟩|⟨⟨_,_,q⟩,_⟩
                · exact q
                · have:=rA.eq;omega
              obtain ⟨rfl,hsb⟩:=hsb;clear hE rA hg;go_wp2_with (first
                | (go_at_call 77;refine hf.mono ?_;rintro en w6 ⟨rfl,hb6⟩;have p6:=p5.below hb6 p5.lt;have z2:=p6.cell 2 _ rfl)
                | (go_at_call 108;refine (Fa _ p6).mono ?_;rintro en w7 ⟨rfl,qx,kG⟩;obtain ⟨kc,hfin⟩:=close hb6 hsb qx kG;have b0:=kc.cell 0 _ rfl;have b1:=kc.cell 1 _ rfl;have b2':=kc.cell 2 _ rfl;have g0:=kc.free 0;have g1:=kc.free 1;have g2:=kc.free 2)
                | go_in)
              have sf:=((kc.set 0 (.int .i64 1) (by simp)).set 1 (.int .i64 0) (by simp)).set 2 (.int .i64 0) (by simp);refine yaP (iq rfl _ _ w.heap.size [.int .i64 1,.int .i64 0,.int .i64 0] _ rfl (fun j y hy=>by rw [yau];exact sf.cell j y hy) underlying77 rfl (by kernel_rfl)) rfl ?_;exact ⟨rfl,hfin⟩
            · obtain ⟨rfl,hs'⟩:E=0∧s'=({ s with tk:=s.tk++ [(t.id,⟨t.ct,t.sg⟩)],ou:=s.ou+t.ct,nx:=(aZ r.n s.nx s.nw t.ct).1,nw:=(aZ r.n s.nx s.nw t.ct).2,hd:=t.id,sg:=t.sg }:PS).stop:=by
                rcases hE with ⟨q|q|q,_⟩|⟨_,q⟩
                · exact absurd he2 q
                · exact absurd hg q
                · have:=rA.eq;omega
                · exact q
              clear hE rA close Fa;have hgo:=fun w'=>IE (n:=r.n) (a:=s.nx) (c:=t.ct) (x:=s.nw) ⟨by omega,by omega⟩ hnx (by have:=(hts he2).2.1;omega) w';unfold bQ at hgo;have aaZ: ∀e∈s'.tk,0≤e.1∧e.1<r.n:=by
                rw [hs'];intro e he;have he:e∈s.tk++ [(t.id,(⟨t.ct,t.sg⟩:bN))]:=he;rcases yaR.1 he with q|q
                · exact h.dH e q
                · rw [yaD.1 q];exact (hts he2).1
              have aaT:(s'.tk.map (·.1)).Nodup:=by
                rw [hs'];show ((s.tk++ [(t.id,(⟨t.ct,t.sg⟩:bN))]).map (·.1)).Nodup;rw [ycK,ydn];refine ⟨h.nd,by simp,fun a ha b hb hab=> ?_⟩;obtain ⟨e,he,rfl⟩:=ya2.1 ha;obtain ⟨j,hj,rfl⟩:=ycg.1 he;exact CR hg j hj (hab.trans (by simpa using hb))
              generalize (aZ r.n s.nx s.nw t.ct).1=u1 at hgo hs';generalize (aZ r.n s.nx s.nw t.ct).2=u2 at hgo hs';have K9: ∀pI:Value,(((((((s.aJ r P sv lv ct).set 17 (.int .i64 t.id)).set 18 (.slice ig n0 c0')).set 13 pI).set 9 (.int .i64 u1)).set 10 (.bool u2)).set 14 (.int .i64 0)).set 21 (.bool true)=s'.aJ r P (.slice ig n0 c0') pI ct:=fun pI=>by
                rw [hs'];unfold PS.aJ;rw [hb];rfl
              have ql:s'.tk=s.tk++ [(t.id,⟨t.ct,t.sg⟩)]:=by rw [hs'];rfl
              have J6:s'.sg=t.sg:=by rw [hs'];rfl
              have J4:s'.ph=0:=by rw [hs'];rfl
              have J3:s'.br=false:=by rw [hs'];rfl
              clear hs';go_wp2_with (first
                | (go_at_call 77;refine hf.mono ?_;rintro en w6 ⟨rfl,hb6⟩;have p6:=p5.below hb6 p5.lt;have z2:=p6.cell 2 _ rfl)
                | go_in)
              have t6:=t5.below hb6 t5.lt;have zI:=Ck.below hb6 Ck.lt;have aaz:=hbel.trans (hb6.mono hbel.size);have x60:=t6.cell 0 _ rfl;have x61:=t6.cell 1 _ rfl;have x62:=t6.cell 2 _ rfl;have z17:=p6.cell 17 _ rfl;have TS:=p6.cell 18 _ rfl;have f17:=p6.free 17;have f18:=p6.free 18;have nT':S≠T9:=fun e=>nT e.symm;clear x0 x1 x2 y2 y2' y13 hf;go_cut [] from 191 to 202 (fun wx=>Cl wx S (((s.aJ r P sv lv ct).set 17 (.int .i64 t.id)).set 18 (.slice ig n0 c0'))∧Dw.Mv (· =S) w6 wx)
              case first=>
                go_region_held3 (fun w'=>w'.cell? ⟨T9,0,none⟩=some (.int .i64 t.id)∧w'.cell? ⟨T9,2,none⟩=some (.slice ig n0 c0')) (go_keep) (fail)
                all_goals (go_wp2_with fail)
                all_goals
                  go_meet;have xw:=dM (dM (Dw.Mv.refl (· =S) w6) S 17 (.int .i64 t.id) rfl) S 18 (.slice ig n0 c0') rfl;exact ⟨((p6.set 17 (.int .i64 t.id) (by simp [PS.aJ])).set 18 (.slice ig n0 c0') (by simp [PS.aJ])).kept rfl,⟨xw.os,xw.tape,xw.output,xw.size,xw.block⟩⟩
              case rest=>
                obtain ⟨p7,kG⟩:=hcut;generalize wc=w7 at p7 kG ⊢;have Ry:Dw.Mv (· =S) w w7:=(jU aaz).trans kG;have aaQ:Dw.Mv (· =S) wr w7:=(jU hb6).trans kG;have t7:=t6.kept (kG.block _ t6.lt nT);have lN:=zI.kept (kG.block _ zI.lt nS);have hs7:=kG.size;have hs6:=hb6.size;have hsr:=hbel.size;have hT9:=hC.t9;have e13:=p7.cell 13 _ rfl;rw [hlv] at e13;have aa2:=(hT Ry).2.1;obtain ⟨ty7,K8⟩:=aa2;have b70:=t7.cell 0 _ rfl;have b71:=t7.cell 1 _ rfl;have b72:=t7.cell 2 _ rfl;have hba:=(yah w7.heap.size w7).alloc (yab _) (Obj.cells #[.int .i64 t.id,.int .i64 t.ct,.slice ig n0 c0'] 122);have Fz:=p7.below hba p7.lt;have CO:=Fz.cell 13 _ rfl;rw [hlv] at CO;obtain ⟨i0,hi0,j1,j2,j3⟩:=ybo PG;have hU:prog.underlying 97=some (.slice 122):=by kernel_rfl
                have RJ:=K8.kept (w':=(w7.alloc (Obj.cells #[.int .i64 t.id,.int .i64 t.ct,.slice ig n0 c0'] 122)).drew) fun b e=>hba.block b (K8.lt b e).2;have hnew:=(Cl.new w7 #[.int .i64 t.id,.int .i64 t.ct,.slice ig n0 c0'] 122).kept (w':=(w7.alloc (Obj.cells #[.int .i64 t.id,.int .i64 t.ct,.slice ig n0 c0'] 122)).drew) rfl;have aaq:b2≤w7.heap.size:=by have:=h.b2;omega
                have hlo:=h.lo.1;have zl:S<(w7.alloc (Obj.cells #[.int .i64 t.id,.int .i64 t.ct,.slice ig n0 c0'] 122)).drew.heap.size:=Fz.lt;have aaM:lv.ownBlock≠some S:=fun e=>by have:=(K8.lt S e).1;omega
                have ack:w7.heap.size≠S:=by have:=p7.lt;omega
                clear z17 TS f17 f18 x60 x61 x62 hlo;go_wp2_with fail;go_cut [] from 203 to 212 (fun wx=> ∃pI t2,aA t2 3 wx b2 pI (s.tk.length+1) (eF s.tk vs++ [.int .i64 t.id,.int .i64 t.ct,.slice ig n0 c0'])∧Cl wx S ((((s.aJ r P sv lv ct).set 17 (.int .i64 t.id)).set 18 (.slice ig n0 c0')).set 13 pI)∧(∀b,pI.ownBlock=some b→lv.ownBlock=some b∨w7.heap.size≤b)∧Dw.Mv (fun b=>b=S∨lv.ownBlock=some b) w7 wx)
                case first=>
                  go_region_law (first
                    | (refine rT (P0:=prog) (by rfl) _ _ _ (by rfl) b2 122 ty7 i0 _ 3 40 hU hi0 j1 j2 j3 rfl (by decide) lv s.tk.length (eF s.tk vs) (by rw [hlv];rfl) RJ (some ⟨w7.heap.size,0,none⟩) ⟨w7.heap.size,0,none⟩ rfl 1 1 [.int .i64 t.id,.int .i64 t.ct,.slice ig n0 c0'] (by rfl) rfl
                         (fun j u hu=>by rw [Dw.addr_add,yau];exact hnew.cell j u hu) (fun u hu=>by simp only [yad,yag,yaB] at hu;rcases hu with rfl|rfl|rfl<;>rfl) (by unfold maxLen;omega) (by omega) (by simp;omega) ?_
                       intro v1 wa t1 hown1 hgrow1 o8;have hSb:=hgrow1.block S zl aaM.symm;have LD:=Fz.kept (w':=wa) hSb;have TR:=LD.cell 13 _ rfl;have abT:=LD.free 13;obtain ⟨fU,c2,hv2,KR⟩:=aA.row hown1;clear KR;subst hv2))
                  all_goals (go_wp2_with fail)
                  all_goals
                    go_meet;have hgs:=hgrow1.size;refine ⟨_,t1,aA.kept hown1 fun b e=>yac wa ⟨S,13,none⟩ _ b fun e2=> ?_,LD.set 13 _ (by simp [PS.aJ]),fun b e=> ?_,?_⟩
                    · have e2:b=S:=e2;have:=(aA.lt hown1 b e).1;have:=h.lo.1;omega
                    · rcases o8 with q|q
                      · rw [q] at e;exact .inl e
                      · rw [q] at e;simp at e;omega
                    · have xw:Dw.Mv (fun b=>b=S∨lv.ownBlock=some b) w7 wa:=⟨hgrow1.os,hgrow1.tape,hgrow1.output,by simp at hgs;omega,fun b hb hn=>(hgrow1.block b (by simp;omega) fun e=>hn (.inr e.symm)).trans (hba.block b hb)⟩;exact dM xw S 13 _ (.inl rfl)
                case rest=>
                  obtain ⟨pI,t2,hown2,p8,hlv2,lK⟩:=hcut;generalize wc=w8 at hown2 p8 lK ⊢;have La:=lK.size;have Rq: ∀b,b=T9∨b=w.heap.size→ ¬(b=S∨lv.ownBlock=some b):=fun b hb2' hh=>by
                    rcases hh with hh|hh
                    · rcases hb2' with e|e
                      · exact nT (e.symm.trans hh)
                      · exact nS (e.symm.trans hh)
                    · have:=(hrow.lt b hh).2;omega
                  have t8:=t7.kept (lK.block _ t7.lt (Rq _ (.inl rfl)));have vE:=lN.kept (lK.block _ lN.lt (Rq _ (.inr rfl)));have aaS:Dw.Mv (fun b=>b=S∨lv.ownBlock=some b) w w8:=(Ry.mono fun b e=> .inl e).trans lK;have aaR:Dw.Mv (fun b=>b=S∨lv.ownBlock=some b) wr w8:=(aaQ.mono fun b e=> .inl e).trans lK;have b81:=t8.cell 1 _ rfl;have e9:=p8.cell 9 _ rfl;have e10:=p8.cell 10 _ rfl;have e2:=p8.cell 2 _ rfl;clear e13 CO RJ hnew zl b70 b71 b72 hba Fz;go_wp2_with fail;go_cut [] from 213 to 230 (fun wx=>Cl wx S ((((((s.aJ r P sv lv ct).set 17 (.int .i64 t.id)).set 18 (.slice ig n0 c0')).set 13 pI).set 9 (.int .i64 u1)).set 10 (.bool u2))∧Dw.Mv (· =S) w8 wx)
                  case first=>
                    go_region_law (first
                      | (go_simp;go_at_call 20;refine (hgo w8.drew).mono ?_;rintro en w9 ⟨rfl,rC⟩;have p9:=(p8.kept (w':=w8.drew) rfl).below rC p8.lt;have g9:=p9.cell 9 _ rfl;have g10:=p9.cell 10 _ rfl;have f9:=p9.free 9;have f10:=p9.free 10))
                    all_goals (go_wp2_with fail)
                    all_goals
                      go_meet;exact ⟨(p9.set 9 (.int .i64 u1) (by simp [PS.aJ])).set 10 (.bool u2) (by simp [PS.aJ]),dM (dM (show Dw.Mv (· =S) w8 w9 from ⟨rC.os,rC.tape,rC.output,rC.size,fun b hb _=>rC.block b hb⟩) S 9 (.int .i64 u1) rfl) S 10 (.bool u2) rfl⟩
                  case rest=>
                    obtain ⟨p9,mM⟩:=hcut;generalize wc=w9 at p9 mM ⊢;have hg1:=rQ p9 (by simp [PS.aJ]) rfl rfl 1 0 0 0 true rfl;rw [K9] at hg1;have hs9:=mM.size;have zJ:=vE.kept (mM.block _ vE.lt nS);clear e9 e10 e2 b81 hgo;go_wp2_with (first
                      | (go_at_call 108;refine hg1.mono ?_;rintro en wb ⟨rfl,KD,xq⟩;have kc:=zJ.kept (xq.block _ zJ.lt nS);have b0:=kc.cell 0 _ rfl;have b1:=kc.cell 1 _ rfl;have b2':=kc.cell 2 _ rfl;have g0:=kc.free 0;have g1:=kc.free 1;have g2:=kc.free 2)
                      | go_in)
                    have sf:=((kc.set 0 (.int .i64 1) (by simp)).set 1 (.int .i64 0) (by simp)).set 2 (.int .i64 0) (by simp);refine yaP (iq rfl _ _ w.heap.size [.int .i64 1,.int .i64 0,.int .i64 0] _ rfl (fun j y hy=>by rw [yau];exact sf.cell j y hy) underlying77 rfl (by kernel_rfl)) rfl ?_;have Ru:Dw.Mv (fun b=>b=S∨lv.ownBlock=some b) w8 wb:=(mM.trans xq).mono fun b e=> .inl e;have vo:=eD (eD (eD (aaS.trans Ru) w.heap.size 0 (.int .i64 1) (.inr (yab _))) w.heap.size 1 (.int .i64 0) (.inr (yab _))) w.heap.size 2 (.int .i64 0) (.inr (yab _));have aaO:Dw.Mv (fun b=>(b=S∨lv.ownBlock=some b)∨b=w.heap.size) wr wb:=(aaR.trans Ru).mono fun b e=> .inl e;have hmR:=dM (dM (dM aaO w.heap.size 0 (.int .i64 1) (.inr rfl)) w.heap.size 1 (.int .i64 0) (.inr rfl)) w.heap.size 2 (.int .i64 0) (.inr rfl);have KF:=((KD.kept (yac _ ⟨w.heap.size,0,none⟩ (.int .i64 1) S (fun e=>nS e.symm))).kept (yac _ ⟨w.heap.size,1,none⟩ (.int .i64 0) S (fun e=>nS e.symm))).kept (yac _ ⟨w.heap.size,2,none⟩ (.int .i64 0) S (fun e=>nS e.symm));have aaq:=h.b2;have hlo:=h.lo.1;have hk5:=Ck.lt;have KY:=aA.kept (w':=((wb.setCell ⟨w.heap.size,0,none⟩ (.int .i64 1)).setCell ⟨w.heap.size,1,none⟩ (.int .i64 0)).setCell ⟨w.heap.size,2,none⟩ (.int .i64 0)) hown2 fun b e=>by
                      have q1:=hown2.lt b e;have n1:b≠w.heap.size:=fun e2=>by
                        rcases hlv2 b e with q|q
                        · have:=(hrow.lt b q).2;omega
                        · omega
                      exact (yac _ ⟨w.heap.size,2,none⟩ (.int .i64 0) b n1).trans ((yac _ ⟨w.heap.size,1,none⟩ (.int .i64 0) b n1).trans ((yac _ ⟨w.heap.size,0,none⟩ (.int .i64 1) b n1).trans ((mM.trans xq).block b q1.2 fun e2=>by have e2:b=S:=e2;omega)))
                    have hold: ∀ {v:Value} {l:List Sg},aX (fun b=>A b∨lv.ownBlock=some b) w v l→aX (fun b=>A b∨pI.ownBlock=some b) _ v l:=fun q=>aX.xR q (fun b hb hh=>hh.elim .inl fun e=>by
                      rcases hlv2 b e with q|q
                      · exact .inr q
                      · omega) fun b hb hn=>vo.block b hb fun e=>hn (by
                        rcases e with e|e
                        · exact .inl (by rw [e];exact h.aS)
                        · exact .inr e)
                    have Rz:=aX.xR (A':=fun b=>A b∨pI.ownBlock=some b) hsg (fun b hb hh=>by
                      rcases hh with e|e
                      · exact .inl (by have:=h.lt b e;omega)
                      · rcases hlv2 b e with q|q
                        · exact .inl (by have:=(hrow.lt b q).2;omega)
                        · exact .inr (by omega)) fun b hb hn=>hmR.block b hb fun e=>hn (.inl (by
                        rcases e with (e|e)|e
                        · omega
                        · have:=(hrow.lt b e).2;omega
                        · omega))
                    refine ⟨rfl,pI,h.vN vo KF (J6▸Rz) (vs':=vs++ [.slice ig n0 c0']) ⟨?_,⟨t2,?_⟩,fun i hi hi'=> ?_⟩ (fun q=>by omega) hpb (fun q=> ?_) aaZ aaT,fun b e=>(hlv2 b e).imp_right fun q=>by omega,vo⟩
                    · rw [ql];simp [q5]
                    · rw [ql,Wh _ _ q5,yaX];exact KY
                    · by_cases hil:i<s.tk.length
                      · have e1:s'.tk[i]=s.tk[i]:=by simp only [ql];rw [ybR hil]
                        rw [e1,ybR (by omega)];exact hold (q6 i hil (by omega))
                      · have hie:i=s.tk.length:=by rw [ql] at hi;simp at hi;omega
                        subst hie;have e1:s'.tk[s.tk.length]=(t.id,⟨t.ct,t.sg⟩):=by simp only [ql];rw [ybJ (yab _)];simp
                        have e2:(vs++ [Value.slice ig n0 c0'])[s.tk.length]= .slice ig n0 c0':=by rw [ybJ (by omega)];simp [q5]
                        rw [e1,e2];exact Rz
                    · rcases q with q|q
                      · exact absurd J4 q
                      · rw [J3] at q;cases q
end Go.Proofs
namespace Go.Proofs
open Go.Dw Go.RowKit Go.Maps Go.Sort Go.Deep
set_option maxRecDepth 100000 in
theorem Tryz.Wz {A:Nat→Prop} {w:World} {S P L Bs B N b2:Nat} {r:Rg} {s:PS} {g:Nat→Int} {lv:Value} (h:RW A w S P L Bs B N b2 r s g lv) (hit:7≤s.ph→s.it=false) (hct: ∀e∈s.tk,1≤e.2.ct∧e.2.ct≤r.n) (hl:s.tk.length≤100000) (hpb:PB r (eO N r s g).2.2.1):
  Calls prog 43 #[.pointer (some ⟨S,0,none⟩)] w fun e w'=>e= .returned (.tuple #[(eO N r s g).1,.int .i64 (eO N r s g).2.1])∧ ∃dJ,RW A w' S P L Bs B N b2 r (eO N r s g).2.2.1 (eO N r s g).2.2.2 dJ∧(∀b,dJ.ownBlock=some b→lv.ownBlock=some b∨w.heap.size≤b)∧Dw.Mv (fun b=>b=S∨b=B∨lv.ownBlock=some b) w w':=by
 by_cases hid:s.br=true∨s.ph=0
 ·have e:eO N r s g=(.agg #[.int .i64 0,.int .i64 0,.int .i64 0],if s.br then 4 else 8,s,g):=by
   unfold eO;cases hb:s.br with
   | true=>rfl
   | false=>
    have hp:s.ph=0:=by
     rcases hid with q|q
     ·rw [hb] at q;cases q
     ·exact q
    rw [yai (by decide),yaj hp];rfl
  rw [e];refine (zt0 h hid).mono fun en w' hh=> ?_;exact ⟨hh.1,lv,hh.2.1,fun b e=> .inl e,hh.2.2.mono fun b e=> .inl e⟩
 ·have hb:s.br=false:=by
   cases q:s.br with
   | true=>exact absurd (.inl q) hid
   | false=>rfl
  have hp:s.ph≠0:=fun q=>hid (.inr q);have sW:=h.pb.ph;have e0:eO N r s g=iA N r s g s.ph:=by
   unfold eO;rw [hb,yai (by decide),yai hp]
  have hS: ∀ {a c:World} {lv:Value},Dw.Mv (· =S) a c→Dw.Mv (fun b=>b=S∨b=B∨lv.ownBlock=some b) a c:=fun q=>q.mono fun b e=> .inl e;have Ko: ∀ {a c:World} {lv:Value},Dw.Mv (fun b=>b=S∨b=B) a c→Dw.Mv (fun b=>b=S∨b=B∨lv.ownBlock=some b) a c:=fun q=>q.mono fun b e=>e.imp_right .inl;rw [e0] at hpb ⊢;have hcase:s.ph=1∨s.ph=2∨s.ph=3∨s.ph=4∨s.ph=5∨s.ph=6∨s.ph=7∨s.ph=8∨s.ph=9∨s.ph=10∨s.ph=11:=by omega
  have hlow:s.ph≤6→(7≤s.ph∧82=81)∨(s.ph≤6∧82=82):=fun q=> .inr ⟨q,rfl⟩;have hhigh:7≤s.ph→(7≤s.ph∧81=81)∨(s.ph≤6∧81=82):=fun q=> .inl ⟨q,rfl⟩;rcases hcase with q|q|q|q|q|q|q|q|q|q|q
  ·rw [q] at hpb ⊢;cases fH:mF g s with
   | true=>
    have e:iA N r s g 1=(.agg #[.int .i64 2,.int .i64 1,.int .i64 s.nx],0,s.goto 5,g):=by unfold iA;simp only [fH,ycy]
    rw [e];exact mX h hb hp (hlow (by omega)) fun A1 w1 h1=>(XO h1 hb (.inl q) fH).mono fun en w' hh=>⟨hh.1,lv,hh.2.1,fun b e=> .inl e,hS hh.2.2⟩
   | false=>
    cases hev:s.ev with
    | true=>
     have e:iA N r s g 1=(.agg #[.int .i64 2,.int .i64 1,.int .i64 s.nx],0,s.goto 2,g):=by unfold iA;simp [fH,hev]
     rw [e];exact mX h hb hp (hlow (by omega)) fun A1 w1 h1=>(zt2 h1 hb q hev fH).mono fun en w' hh=>⟨hh.1,lv,hh.2.1,fun b e=> .inl e,hS hh.2.2⟩
    | false=>
     have e:iA N r s g 1=(.agg #[.int .i64 2,.int .i64 1,.int .i64 s.nx],0,({ s with nn:=true }:PS).stop,g):=by unfold iA;simp [fH,hev]
     rw [e];exact mX h hb hp (hlow (by omega)) fun A1 w1 h1=>(XM h1 hb (.inl ⟨q,hev⟩) fH).mono fun en w' hh=>⟨hh.1,lv,hh.2.1,fun b e=> .inl e,hS hh.2.2⟩
  ·rw [q] at hpb ⊢;exact mX h hb hp (hlow (by omega)) fun A1 w1 h1=>(zt3 h1 hb q).mono fun en w' hh=>⟨hh.1,lv,hh.2.1,fun b e=> .inl e,Ko hh.2.2⟩
  ·rw [q] at hpb ⊢;refine mX h hb hp (hlow (by omega)) fun A1 w1 h1=>(XP h1 hb (.inl q)).mono fun en w' hh=>⟨hh.1,lv,?_,fun b e=> .inl e,hS hh.2.2⟩;have:=hh.2.1;rw [q] at this;exact this
  ·rw [q] at hpb ⊢;cases fH:mF g s with
   | true=>
    have e:iA N r s g 4=(.agg #[.int .i64 2,.int .i64 1,.int .i64 s.nx],0,s.goto 5,g):=by unfold iA;simp only [fH,ycy]
    rw [e];exact mX h hb hp (hlow (by omega)) fun A1 w1 h1=>(XO h1 hb (.inr q) fH).mono fun en w' hh=>⟨hh.1,lv,hh.2.1,fun b e=> .inl e,hS hh.2.2⟩
   | false=>
    have e:iA N r s g 4=(.agg #[.int .i64 2,.int .i64 1,.int .i64 s.nx],0,({ s with nn:=true }:PS).stop,g):=by unfold iA;simp [fH]
    rw [e];exact mX h hb hp (hlow (by omega)) fun A1 w1 h1=>(XM h1 hb (.inr q) fH).mono fun en w' hh=>⟨hh.1,lv,hh.2.1,fun b e=> .inl e,hS hh.2.2⟩
  ·rw [q] at hpb ⊢;refine mX h hb hp (hlow (by omega)) fun A1 w1 h1=>(XP h1 hb (.inr q)).mono fun en w' hh=>⟨hh.1,lv,?_,fun b e=> .inl e,hS hh.2.2⟩;have:=hh.2.1;rw [q] at this;exact this
  ·rw [q] at hpb ⊢;by_cases hbad:(bZ N g r.n s.nx s.tb).e≠0∨bY (bZ N g r.n s.nx s.tb).id s.tk≠none∨r.n<(bZ N g r.n s.nx s.tb).ct+s.ou
   ·have e:iA N r s g 6=(.agg #[.int .i64 1,.int .i64 0,.int .i64 0],4,s.brk,g):=by
     unfold iA;simp only;rw [yaj hbad]
    rw [e] at hpb ⊢;exact mX h hb hp (hlow (by omega)) fun A1 w1 h1=>(XQ h1 hb q hct hl rfl (.inl ⟨hbad,rfl,rfl⟩) hpb).mono fun en w' hh=>by
     obtain ⟨q1,dJ,q2,q3,q4⟩:=hh;exact ⟨q1,dJ,q2,q3,q4.mono fun b e=>e.imp_right .inr⟩
   ·have e:iA N r s g 6=(.agg #[.int .i64 1,.int .i64 0,.int .i64 0],0,({ s with tk:=s.tk++ [((bZ N g r.n s.nx s.tb).id,⟨(bZ N g r.n s.nx s.tb).ct,(bZ N g r.n s.nx s.tb).sg⟩)],ou:=s.ou+(bZ N g r.n s.nx s.tb).ct,nx:=(aZ r.n s.nx s.nw (bZ N g r.n s.nx s.tb).ct).1,nw:=(aZ r.n s.nx s.nw (bZ N g r.n s.nx s.tb).ct).2,hd:=(bZ N g r.n s.nx s.tb).id,sg:=(bZ N g r.n s.nx s.tb).sg }:PS).stop,g):=by
     unfold iA;simp only;rw [yai hbad]
    rw [e] at hpb ⊢;have h2:(bZ N g r.n s.nx s.tb).e=0∧bY (bZ N g r.n s.nx s.tb).id s.tk=none∧(bZ N g r.n s.nx s.tb).ct+s.ou≤r.n:=by
     refine ⟨ycm fun q=>hbad (.inl q),?_,?_⟩
     ·cases q:bY (bZ N g r.n s.nx s.tb).id s.tk with
      | none=>rfl
      | some t=>exact absurd (.inr (.inl (by rw [q];exact fun e=>by cases e))) hbad
     ·exact Int.not_lt.1 fun q=>hbad (.inr (.inr q))
    exact mX h hb hp (hlow (by omega)) fun A1 w1 h1=>(XQ h1 hb q hct hl rfl (.inr ⟨h2,rfl,rfl⟩) hpb).mono fun en w' hh=>by
     obtain ⟨q1,dJ,q2,q3,q4⟩:=hh;exact ⟨q1,dJ,q2,q3,q4.mono fun b e=>e.imp_right .inr⟩
  ·rw [q] at hpb ⊢;exact mX h hb hp (hhigh (by omega)) fun A1 w1 h1=>(zub h1 hb q).mono fun en w' hh=>⟨hh.1,lv,hh.2.1,fun b e=> .inl e,Ko hh.2.2⟩
  ·rw [q] at hpb ⊢;refine mX h hb hp (hhigh (by omega)) fun A1 w1 h1=>(YV h1 hb (.inl q)).mono fun en w' hh=>⟨hh.1,lv,?_,fun b e=> .inl e,hS hh.2.2⟩;have:=hh.2.1;rw [q] at this;exact this
  ·rw [q] at hpb ⊢;exact mX h hb hp (hhigh (by omega)) fun A1 w1 h1=>(zua h1 hb q).mono fun en w' hh=>⟨hh.1,lv,hh.2.1,fun b e=> .inl e,Ko hh.2.2⟩
  ·rw [q] at hpb ⊢;refine mX h hb hp (hhigh (by omega)) fun A1 w1 h1=>(YV h1 hb (.inr q)).mono fun en w' hh=>⟨hh.1,lv,?_,fun b e=> .inl e,hS hh.2.2⟩;have:=hh.2.1;rw [q] at this;exact this
  ·have h7:7≤s.ph:=by omega
   have hi:=hit h7;obtain ⟨t,ht⟩:=h.pb.ret h7;have e:iA N r s g s.ph=(.agg #[.int .i64 2,.int .i64 10,.int .i64 0],0,({ s with us:=(aZ r.n s.us s.uw t.ct).1,uw:=(aZ r.n s.us s.uw t.ct).2,it:=lD r.n (aZ r.n s.us s.uw t.ct).1 (aZ r.n s.us s.uw t.ct).2 t.ct (ax g r.v.toNat 4) s.it,tk:=iB s.hd s.tk,ou:=s.ou-t.ct }:PS).stop,g):=by
    rw [q];unfold iA
    dsimp only
    rw [ht];rfl
   rw [e] at hpb ⊢;exact mX h hb hp (hhigh h7) fun A1 w1 h1=>(zp3 h1 hb q hi hct hl ht rfl hpb).mono fun en w' hh=>by
    obtain ⟨q1,dJ,q2,q3,q4⟩:=hh;exact ⟨q1,dJ,q2,fun b e=> .inr (q3 b e),hS q4⟩
end Go.Proofs
namespace Go.Proofs
open Go.Dw Go.RowKit Go.Maps Go.Sort
section
variable {W0:World} {X9 JH S P L Bs B M:Nat} {r:Tryz.Rg} {av:Value} {acts:List Tryz.Pc} {s:Tryz.PS×(Nat→Int)} {i steps:Nat} {na:Int} {nw:Bool} {a:Act} {w:World}
end
end Go.Proofs
namespace Go.Proofs
open Go.Dw Go.RowKit Go.Maps Go.Sort Go.Deep Go.ChangeShapes Go.WideShapes
section
variable {H:Type} {enc:TypeId×Value→H} {W:World} {sp:Nat→Bool} {held:Bool} {fuel:Nat}
set_option maxRecDepth 100000 in
theorem Tryz.zxr {cs:List Value} {x:DataW H×List MemPlace} (h:DataW.trod enc prog W 0 sp held fuel 60 cs=some x): ∃a l f y:Int,cs= [.int .u64 a,.int .u32 l,.int .u16 f,.int .u16 y]∧(0≤a∧a<18446744073709551616)∧(0≤l∧l<4294967296)∧(0≤f∧f<65536)∧(0≤y∧y<65536):=by
 obtain ⟨xs,n,rfl,rfl,hl,hx,hf⟩:=ydz underlying60 h;have hl:cs.length=4:=hl.trans (by kernel_rfl);have hx:xs.length=4:=hx
 match cs,hl with
 | [c0,c1,c2,c3],_=>
  have f0:DataW.trod enc prog W 0 sp held n 29 [c0]=xs[0]? :=by
   have:=(show DataW.trod enc prog W 0 sp held n 29 (([c0,c1,c2,c3].drop 0).take (prog.cellsOf 29))=xs[0]? from hf 0 _ rfl);rw [show prog.cellsOf 29=1 from by kernel_rfl] at this;exact this
  have f1:DataW.trod enc prog W 0 sp held n 41 [c1]=xs[1]? :=by
   have:=(show DataW.trod enc prog W 0 sp held n 41 (([c0,c1,c2,c3].drop 1).take (prog.cellsOf 41))=xs[1]? from hf 1 _ rfl);rw [show prog.cellsOf 41=1 from by kernel_rfl] at this;exact this
  have f2:DataW.trod enc prog W 0 sp held n 58 [c2]=xs[2]? :=by
   have:=(show DataW.trod enc prog W 0 sp held n 58 (([c0,c1,c2,c3].drop 2).take (prog.cellsOf 58))=xs[2]? from hf 2 _ rfl);rw [show prog.cellsOf 58=1 from by kernel_rfl] at this;exact this
  have f3:DataW.trod enc prog W 0 sp held n 58 [c3]=xs[3]? :=by
   have:=(show DataW.trod enc prog W 0 sp held n 58 (([c0,c1,c2,c3].drop 3).take (prog.cellsOf 58))=xs[3]? from hf 3 _ rfl);rw [show prog.cellsOf 58=1 from by kernel_rfl] at this;exact this
  rw [Ay (by omega)] at f0 f1 f2 f3;obtain ⟨n0,e0,_,w0⟩:=ybK underlying29 f0;obtain ⟨n1,e1,_,w1⟩:=ybK underlying41 f1;obtain ⟨n2,e2,_,w2⟩:=ybK underlying58 f2;obtain ⟨n3,e3,_,w3⟩:=ybK underlying58 f3;simp only [yaM,yaN] at e0 e1 e2 e3;subst e0 e1 e2 e3;have b0:=bounds_u64 w0;have b1:=bounds_u32 w1;have b2:=bounds_u16 w2;have b3:=bounds_u16 w3;exact ⟨n0,n1,n2,n3,rfl,by omega,by omega,by omega,by omega⟩
set_option maxRecDepth 100000 in
theorem Tryz.zAc {cs:List Value} {x:DataW H×List MemPlace} (h:DataW.trod enc prog W 0 sp held fuel 73 cs=some x) (hw: ∀n∈x.1.weights prog 73,n≤reachBytes): ∃c:Pc,cs=c.cells∧c.ok W:=by
 obtain ⟨xs,n,rfl,rfl,hl,hx,hf⟩:=ydz underlying73 h;have hl:cs.length=9:=hl.trans (by kernel_rfl);have hx:xs.length=6:=hx
 match cs,hl with
 | [c0,c1,c2,c3,c4,c5,c6,c7,c8],_=>
  have f0:DataW.trod enc prog W 0 sp held n 3 [c0]=xs[0]? :=by
   have:=(show DataW.trod enc prog W 0 sp held n 3 (([c0,c1,c2,c3,c4,c5,c6,c7,c8].drop 0).take (prog.cellsOf 3))=xs[0]? from hf 0 _ rfl);rw [show prog.cellsOf 3=1 from by kernel_rfl] at this;exact this
  have f1:DataW.trod enc prog W 0 sp held n 3 [c1]=xs[1]? :=by
   have:=(show DataW.trod enc prog W 0 sp held n 3 (([c0,c1,c2,c3,c4,c5,c6,c7,c8].drop 1).take (prog.cellsOf 3))=xs[1]? from hf 1 _ rfl);rw [show prog.cellsOf 3=1 from by kernel_rfl] at this;exact this
  have f2:DataW.trod enc prog W 0 sp held n 41 [c2]=xs[2]? :=by
   have:=(show DataW.trod enc prog W 0 sp held n 41 (([c0,c1,c2,c3,c4,c5,c6,c7,c8].drop 2).take (prog.cellsOf 41))=xs[2]? from hf 2 _ rfl);rw [show prog.cellsOf 41=1 from by kernel_rfl] at this;exact this
  have f3:DataW.trod enc prog W 0 sp held n 60 [c3,c4,c5,c6]=xs[3]? :=by
   have:=(show DataW.trod enc prog W 0 sp held n 60 (([c0,c1,c2,c3,c4,c5,c6,c7,c8].drop 3).take (prog.cellsOf 60))=xs[3]? from hf 3 _ rfl);rw [show prog.cellsOf 60=4 from by kernel_rfl] at this;exact this
  have f4:DataW.trod enc prog W 0 sp held n 4 [c7]=xs[4]? :=by
   have:=(show DataW.trod enc prog W 0 sp held n 4 (([c0,c1,c2,c3,c4,c5,c6,c7,c8].drop 7).take (prog.cellsOf 4))=xs[4]? from hf 4 _ rfl);rw [show prog.cellsOf 4=1 from by kernel_rfl] at this;exact this
  have f5:DataW.trod enc prog W 0 sp held n 40 [c8]=xs[5]? :=by
   have:=(show DataW.trod enc prog W 0 sp held n 40 (([c0,c1,c2,c3,c4,c5,c6,c7,c8].drop 8).take (prog.cellsOf 40))=xs[5]? from hf 5 _ rfl);rw [show prog.cellsOf 40=1 from by kernel_rfl] at this;exact this
  rw [Ay (by omega)] at f0 f1 f2 f3 f4 f5;obtain ⟨n0,e0,_,w0⟩:=ybK underlying3 f0;obtain ⟨n1,e1,_,w1⟩:=ybK underlying3 f1;obtain ⟨n2,e2,_,w2⟩:=ybK underlying41 f2;obtain ⟨a,l,f,y,e3,ha,hl2,hf2,hy⟩:=zxr f3;obtain ⟨sl,hsl,hsn⟩:=zvK f5 fun m hm=>hw m (by
   unfold DataW.weights;rw [underlying73];exact DataW.weights_mem_each (j:=5) (t:=40) (d:=xs[5].1) rfl (by rw [ybb,Ay (by omega)];rfl) m hm)
  obtain ⟨gb,e7,_⟩:=DataW.trod_bool underlying4 f4;simp only [yaM,yaN] at e0 e1 e2 e3 e7;obtain ⟨e3,e4,e5,e6⟩:=e3;subst e0 e1 e2 e3 e4 e5 e6 e7;have b0:=bounds_i64 w0;have b1:=bounds_i64 w1;have b2:=bounds_u32 w2;exact ⟨⟨n0,n1,n2,a,l,f,y,gb,c8,sl⟩,rfl,⟨by show _≤n0;omega,by show n0<_;omega⟩,⟨by show _≤n1;omega,by show n1<_;omega⟩,⟨by show 0≤n2;omega,by show n2<_;omega⟩,ha,hl2,hf2,hy,hsl,hsn⟩
theorem Tryz.Wp {e:TypeId}: ∀ {l:List (DataW H)} {d:DataW H},d∈l→ ∀n∈d.weights prog e,n∈DataW.weightsAll prog e l
 | x::r,d,h,n,hn=>by
  unfold DataW.weightsAll;rcases yad.1 h with rfl|h
  ·exact ych _ hn
  ·exact ycc _ (Wp h n hn)
set_option maxRecDepth 100000 in
theorem Tryz.abm {v:Value} {x:DataW H×List MemPlace} (h:DataW.trod enc prog W 0 sp held fuel 68 [v]=some x) (hw: ∀n∈x.1.weights prog 68,n≤reachBytes):
  ∃ l,qU W v l:=by
 rcases DataW.trod_slice underlying68 h with ⟨e,_⟩|⟨a,len,cap,elems,rest,n,rfl,e,rfl,_,hlc,hcap,hel,hc,_⟩
 ·simp only [yaM,yaN] at e;subst e;exact ⟨[],⟨⟨none,0,rfl,.inl rfl⟩,fun x hx=>(by cases hx),by decide⟩⟩
 ·simp only [yaM,yaN] at e;subst e;have hb:prog.bytesOf 73=72:=by kernel_rfl
  have hc9:prog.cellsOf 73=9:=by kernel_rfl
  have hws: ∀m,(m=(elems.length+rest.length)*72∨m∈DataW.weightsAll prog 73 (elems.map (·.1)))→m≤reachBytes:=fun m hm=>hw m (by
   unfold DataW.weights;rw [underlying68];simp only [ybs,hb,yad,yaR];rcases hm with hm|hm
   ·exact .inl hm
   ·exact .inr (.inl hm))
  have hsz:=hws _ (.inl rfl);unfold reachBytes at hsz;rw [hc9] at hc;obtain ⟨l,hll,hl⟩:=PL (p:=fun i (s:Pc)=>W.cells? 0 (a.add (i*9)) 9=some s.cells∧s.ok W) len fun i hi=>by
   have:=hc i hi;rw [Ay (by omega)] at this;obtain ⟨cs,h1,h2⟩:=yc2.1 this;obtain ⟨s,rfl,hs⟩:=zAc h2 fun m hm=>hws m (.inr (Wp (ya2.2 ⟨_,yaS _,rfl⟩) m hm));exact ⟨s,h1,hs⟩
  subst hll;refine ⟨l,⟨⟨some a,cap,rfl,?_⟩,fun s hs=> ?_,by omega⟩⟩
  ·by_cases h0:l= []
   ·exact .inl h0
   ·right;obtain ⟨ab,ao,aq⟩:=a;have hp:0<l.length:=ybq.2 h0;have hs:aq=none:=cell_spot ((yc3 (hl 0 hp).1).2.2 0 (by decide));subst hs;refine ⟨ab,ao,rfl,fun i hi j y hy=> ?_⟩;have hj:j<9:=by
     have:=yax.1 hy;simpa [Pc.cells] using this.1
    have:=(yc3 (hl i hi).1).2.2 j hj;rw [hy,addr_add,addr_add] at this;rw [show ao+9*i+j=ao+i*9+j by omega];exact this
  ·obtain ⟨i,hi,rfl⟩:=ycg.1 hs;exact (hl i hi).2
end
end Go.Proofs
namespace Go.Proofs
open Go.Dw Go.RowKit Go.Maps Go.Sort Go.Deep
structure Tryz.SI (s:PS) (i:Nat):Prop where
 seg: ∀e∈s.tk,e.2.sg.length≤64
 sg:s.sg.length≤64
 it:s.ph≠0→s.it=false
 len:s.tk.length≤i
theorem Tryz.SI.fresh (ev tb:Bool):SI (PS.fresh ev tb) 0:=⟨fun e he=>(by cases he),yaE _,fun h=>absurd rfl h,yab _⟩
theorem Tryz.SI.up {s:PS} {i:Nat} (h:SI s i):SI s (i+1):=⟨h.seg,h.sg,h.it,ycz h.len⟩
theorem Tryz.SI.poll {s:PS} {i:Nat} (h:SI s i):SI (qN s).2 i:=by
 unfold qN;split
 ·exact h
 ·split
  ·exact h
  ·exact ⟨h.seg,yaE _,fun _=>rfl,h.len⟩
theorem Tryz.SI.ret {s:PS} {i:Nat} (h:SI s i) (hd wr:Int):SI (ni s hd wr).2 i:=by
 unfold ni;split
 ·exact h
 ·split
  ·exact h
  ·split
   ·exact h
   ·split
    ·exact h
    ·exact ⟨h.seg,yaE _,fun _=>rfl,h.len⟩
theorem Tryz.SI.goto {s:PS} {i:Nat} (h:SI s i) (hp:s.ph≠0) (k:Nat):SI (s.goto k) i:=⟨h.seg,h.sg,fun _=>h.it hp,h.len⟩
theorem Tryz.SI.step {N:Nat} {r:Rg} {s:PS} {g:Nat→Int} {i:Nat} (h:SI s i) (hg: ∀j,0≤g j∧g j<256) (hn:1≤r.n) (h11:s.ph≤11):SI (eO N r s g).2.2.1 (i+1):=by
 unfold eO;split
 ·exact h.up
 ·split
  ·exact h.up
  ·rename_i hb h0;have stop: ∀ {t:PS},(∀e∈t.tk,e.2.sg.length≤64)→t.sg.length≤64→t.tk.length≤i+1→SI t.stop (i+1):=fun h1 h2 h3=>⟨h1,h2,fun q=>absurd rfl q,h3⟩;have sW:s.ph=1∨s.ph=2∨s.ph=3∨s.ph=4∨s.ph=5∨s.ph=6∨s.ph=7∨s.ph=8∨s.ph=9∨s.ph=10∨s.ph=11:=by omega
   have go:=fun (q:Nat)=>(h.goto h0 q).up;have hl:=h.len;rcases sW with hp|hp|hp|hp|hp|hp|hp|hp|hp|hp|hp<;>rw [hp]<;>unfold iA<;>simp only
   ·split
    ·exact go 5
    ·split
     ·exact go 2
     ·exact stop h.seg h.sg (by show s.tk.length≤_;omega)
   ·exact go 3
   ·exact go 4
   ·split
    ·exact go 5
    ·exact stop h.seg h.sg (by show s.tk.length≤_;omega)
   ·exact go 6
   ·split
    ·exact ⟨h.seg,yaE _,fun q=>absurd rfl q,by show s.tk.length≤_;omega⟩
    ·rename_i hh;have hk:=(OC hg hn (ycm fun e=>hh (.inl e))).2.2.2;refine stop (fun e he=> ?_) hk (by show (s.tk++_).length≤_;simp;omega);rcases yaR.1 he with he|he
     ·exact h.seg e he
     ·rw [yaD] at he;subst he;exact hk
   ·exact go 8
   ·exact go 9
   ·exact go 10
   ·exact go 11
   ·exact stop (fun e he=>h.seg e (zww he)) h.sg (by show (iB _ _).length≤_;have:=(zny s.hd s.tk).1;omega)
section
variable {A A' K:Nat→Prop} {w w':World} {S P L Bs B M N:Nat} {r:Tryz.Rg} {s:Tryz.PS} {g:Nat→Int}
theorem Tryz.PW.vD (h:PW A w S P L Bs B M N r s g) (hA: ∀b,b<w.heap.size→A' b→A b) (aS:A' S) (aM:A' M) (aB:A' B) (hl: ∀b,A' b→b<w'.heap.size) (hm:Dw.Mv K w w') (hK: ∀b,K b→A b) (hn: ¬K S∧ ¬K M∧ ¬K P∧ ¬K L∧ ¬K Bs∧ ¬K B):PW A' w' S P L Bs B M N r s g:=by
 obtain ⟨n1,n2,n3,n4,n5,n6⟩:=hn;have l1:=h.zM;have l2:=h.Cn;have l3:=h.mem.bl;have l4:=h.mem.pl;have l5:=h.mem.ll;have l6:=h.mem.sl;have h1:=h.kept (w':=w') (hm.block S l1 n1) (hm.block M l2 n2) (fun k hk hk'=>hm.block k hk fun q=>hk' (hK k q)) (fun k hk=>by
  rcases hk with rfl|rfl|rfl|rfl
  ·exact hm.block _ l4 n3
  ·exact hm.block _ l5 n4
  ·exact hm.block _ l6 n5
  ·exact hm.block _ l3 n6) hm.size
 obtain ⟨sv,o1,o2⟩:=h.obj;obtain ⟨pQ,p1,p2⟩:=h1.obj;have hk: ∀b,b<w.heap.size→ ¬A b→w'.heap[b]? =w.heap[b]? :=fun b hb hn=>hm.block b hb fun q=>hn (hK b q);obtain ⟨arr,clock,m1,m2,m3⟩:=h.tk.map;obtain ⟨arr',clock',Co,_,_⟩:=h1.tk.map;refine ⟨⟨sv,?_,aX.xR o2 hA hk⟩,⟨⟨arr,clock,(hm.block M l2 n2).trans m1,m2,fun k=>⟨(m3 k).1,fun t ht=> ?_⟩⟩,h.tk.keys,h.tk.dH⟩,h.ne,aS,aM,h.rg,h.pb,h1.mem,h.hN,h.sd,h.md,aB,hl,h.fit⟩
 ·obtain ⟨arr,e,q1,q2⟩:=o1;exact ⟨arr,e,(hm.block S l1 n1).trans q1,q2⟩
 ·obtain ⟨v,v1,v2⟩:=(m3 k).2 t ht;exact ⟨v,v1,aX.xR v2 hA hk⟩
end
set_option maxRecDepth 100000 in
theorem Tryz.ztT {A B:Nat→Prop} {w:World} {op hd wr:Int} {nn it:Bool} {u1 u2:Value} {l:List Sg} (h1:aX A w u1 l) (h2:aX B w u2 l) (hl:l.length<4000000):
    Calls prog 47 #[.agg #[.int .i64 op,.bool nn,.int .i64 hd,u1,.int .u32 wr,.bool it],.agg #[.int .i64 op,.bool nn,.int .i64 hd,u2,.int .u32 wr,.bool it]] w fun e w'=>e= .returned (.bool true)∧Below w.heap.size w w':=by
  have hsm:=fun w1 (hb:Below w.heap.size w w1)=>Z7 (aX.below h1 hb) (aX.below h2 hb) hl hl;simp only [ydD] at hsm;obtain ⟨sa,c,rfl,_⟩:=h1;obtain ⟨sb,d,rfl,_⟩:=h2;have hb1:=(yah w.heap.size w).alloc (yab _) (Obj.cells #[.int .i64 op,.bool nn,.int .i64 hd,.slice sa l.length c,.int .u32 wr,.bool it] 50);have hb2:=hb1.alloc (by simp) (Obj.cells #[.int .i64 op,.bool nn,.int .i64 hd,.slice sb l.length d,.int .u32 wr,.bool it] 50);have hs:=hsm _ hb2;have ka:=(Cl.new w #[.int .i64 op,.bool nn,.int .i64 hd,.slice sa l.length c,.int .u32 wr,.bool it] 50).alloc (Obj.cells #[.int .i64 op,.bool nn,.int .i64 hd,.slice sb l.length d,.int .u32 wr,.bool it] 50);have kb:=Cl.new2 (w:=w.alloc (Obj.cells #[.int .i64 op,.bool nn,.int .i64 hd,.slice sa l.length c,.int .u32 wr,.bool it] 50)) (b:=w.heap.size+1) (arr:= #[.int .i64 op,.bool nn,.int .i64 hd,.slice sb l.length d,.int .u32 wr,.bool it]) (t:=50) (by simp);clear hsm;go_enter func47,ntmps47;go_wp2_with (first
    | (go_at_call 15;refine hs.mono ?_;rintro e w3 ⟨rfl,hb3⟩;have ja:=ka.below hb3 ka.lt;have jb:=kb.below hb3 kb.lt;have a4:=ja.cell 4 _ rfl;have a5:=ja.cell 5 _ rfl;have b4:=jb.cell 4 _ rfl;have b5:=jb.cell 5 _ rfl)
    | go_in)
  go_ret;exact ⟨rfl,hb2.trans (hb3.mono hb2.size)⟩
end Go.Proofs
namespace Go.Proofs
open Go.Dw Go.RowKit Go.Maps Go.Sort Go.Deep
structure Tryz.gB where
 X7:Nat
 S:Nat
 P:Nat
 L:Nat
 Bs:Nat
 B:Nat
 M:Nat
 S2:Nat
 P2:Nat
 L2:Nat
 jh:Nat
 B2:Nat
 b2:Nat
structure Tryz.gB.ok (d:gB) (n0:Nat):Prop where
 ex: ∃n1 n2 n3 n4,n0≤d.X7∧d.X7<n1∧(n1≤d.P∧n1≤d.L∧n1≤d.Bs∧n1≤d.B)∧(d.P<n2∧d.L<n2∧d.Bs<n2∧d.B<n2)∧(n2≤d.P2∧n2≤d.L2∧n2≤d.jh∧n2≤d.B2)∧(d.P2<n3∧d.L2<n3∧d.jh<n3∧d.B2<n3)∧(n3≤d.S∧n3≤d.M)∧(d.S<n4∧d.M<n4)∧n4≤d.S2∧d.S2<d.b2
def Tryz.gB.A (d:gB) (b:Nat):Prop:=b=d.S∨b=d.M∨b=d.B∨b=d.S2∨b=d.B2
def Tryz.gB.all (d:gB) (b:Nat):Prop:=d.A b∨b=d.P∨b=d.L∨b=d.Bs∨b=d.P2∨b=d.L2∨b=d.jh
structure Tryz.Duo (n0:Nat) (Z:Nat→Prop) (w:World) (d:gB) (r:Rg) (s1:PS) (g1:Nat→Int) (s2:PS) (g2:Nat→Int):Prop where
 ex: ∃lv,PW (fun b=>(d.A b∨Z b)∨lv.ownBlock=some b) w d.S d.P d.L d.Bs d.B d.M 20000 r s1 g1∧RW (fun b=>d.A b∨Z b) w d.S2 d.P2 d.L2 d.jh d.B2 20000 d.b2 r s2 g2 lv∧ ∀b,lv.ownBlock=some b→ ¬Z b∧d.b2≤b∧b<w.heap.size
 st:d.ok n0
 za: ∀b,Z b→b<w.heap.size∧ ¬d.all b
section
variable {n0:Nat} {Z Z':Nat→Prop} {w w':World} {d:Tryz.gB} {r:Tryz.Rg} {s1 s1':Tryz.PS} {g1 g1':Nat→Int} {s2 s2':Tryz.PS} {g2 g2':Nat→Int}
theorem Tryz.Duo.below (h:Duo n0 Z w d r s1 g1 s2 g2) (hb:Below w.heap.size w w'):Duo n0 Z w' d r s1 g1 s2 g2:=by
 obtain ⟨⟨lv,h1,h2,h3⟩,h4,h5⟩:=h;have hs:=hb.size;exact ⟨⟨lv,h1.below hb,h2.below hb,fun b e=>by have:=h3 b e;exact ⟨this.1,this.2.1,by omega⟩⟩,h4,fun b e=>by have:=h5 b e;exact ⟨by omega,this.2⟩⟩
theorem Tryz.Duo.set (h:Duo n0 Z w d r s1 g1 s2 g2) (hz: ∀b,Z' b→Z b):Duo n0 Z' w d r s1 g1 s2 g2:=by
 obtain ⟨⟨lv,h1,h2,h3⟩,h4,h5⟩:=h;exact ⟨⟨lv,h1.set (fun b _ q=>q.imp_left fun q=>q.imp_right (hz b)) (.inl (.inl (.inl rfl))) (.inl (.inl (.inr (.inl rfl)))) (.inl (.inl (.inr (.inr (.inl rfl))))) (fun b q=>h1.lt b (q.imp_left fun q=>q.imp_right (hz b))),h2.less (fun b q=>q.imp_right (hz b)) (.inl (.inr (.inr (.inr (.inl rfl))))) (.inl (.inr (.inr (.inr (.inr rfl))))),fun b e=>⟨fun q=>(h3 b e).1 (hz b q),(h3 b e).2⟩⟩,h4,fun b e=>h5 b (hz b e)⟩
theorem Tryz.Duo.more (h:Duo n0 Z w d r s1 g1 s2 g2) (hb:Below w.heap.size w w') (hz: ∀b,Z' b→Z b∨(w.heap.size≤b∧b<w'.heap.size)):Duo n0 Z' w' d r s1 g1 s2 g2:=by
 have hs:=hb.size;obtain ⟨⟨lv,h1,h2,h3⟩,h4,h5⟩:=h;have k1:=h1.zM;have k2:=h1.Cn;have k3:=h1.mem.bl;have k4:=h1.mem.pl;have k5:=h1.mem.ll;have k6:=h1.mem.sl;obtain ⟨_,_,_,hc2,_⟩:=h2.obj;have k7:=hc2.lt;have k8:=h2.rm.bl;have k9:=h2.rm.pl;have k10:=h2.rm.ll;have k11:=h2.rm.sl;have hall: ∀b,d.all b→b<w.heap.size:=fun b q=>by
  rcases q with (q|q|q|q|q)|q|q|q|q|q|q<;>omega
 refine ⟨⟨lv,h1.vD (K:=fun _=>False) (fun b hb q=> ?_) (.inl (.inl (.inl rfl))) (.inl (.inl (.inr (.inl rfl)))) (.inl (.inl (.inr (.inr (.inl rfl))))) (fun b q=> ?_) (jU hb) (fun _ q=>q.elim) ⟨id,id,id,id,id,id⟩,h2.vD (fun b hb q=> ?_) (.inl (.inr (.inr (.inr (.inl rfl))))) (.inl (.inr (.inr (.inr (.inr rfl))))) (fun b q=> ?_) (fun b hh _=>hb.block b hh) hs,fun b e=>⟨fun q=> ?_,(h3 b e).2.1,by have:=(h3 b e).2.2;omega⟩⟩,h4,fun b e=> ?_⟩
 ·rcases q with (q|q)|q
  ·exact .inl (.inl q)
  ·rcases hz b q with q|q
   ·exact .inl (.inr q)
   ·omega
  ·exact .inr q
 ·rcases q with (q|q)|q
  ·have:=hall b (.inl q);omega
  ·rcases hz b q with q|q
   ·have:=(h5 b q).1;omega
   ·exact q.2
  ·have:=(h3 b q).2.2;omega
 ·rcases q with q|q
  ·exact .inl (.inl q)
  ·rcases hz b q with q|q
   ·exact .inl (.inr q)
   ·omega
 ·rcases q with q|q
  ·have:=hall b (.inl q);omega
  ·rcases hz b q with q|q
   ·have:=(h5 b q).1;omega
   ·exact q.2
 ·rcases hz b q with q|q
  ·exact (h3 b e).1 q
  ·have:=(h3 b e).2.2;omega
 ·rcases hz b e with q|q
  ·have:=h5 b q;exact ⟨by omega,this.2⟩
  ·refine ⟨q.2,fun hA=> ?_⟩;have:=hall b hA;omega
theorem Tryz.Duo.own (h:Duo n0 Z w d r s1 g1 s2 g2) (hm:Dw.Mv Z w w'):Duo n0 Z w' d r s1 g1 s2 g2:=by
 obtain ⟨⟨lv,h1,h2,h3⟩,h4,h5⟩:=h;have hs:=hm.size;have hn: ∀ {b:Nat},d.all b→ ¬Z b:=fun q hz=>(h5 _ hz).2 q;exact ⟨⟨lv,h1.vD (K:=Z) (fun b _ q=>q) (.inl (.inl (.inl rfl))) (.inl (.inl (.inr (.inl rfl)))) (.inl (.inl (.inr (.inr (.inl rfl))))) (fun b q=>yae (h1.lt b q) hs) hm (fun b q=> .inl (.inr q)) ⟨hn (.inl (.inl rfl)),hn (.inl (.inr (.inl rfl))),hn (.inr (.inl rfl)),hn (.inr (.inr (.inl rfl))),hn (.inr (.inr (.inr (.inl rfl)))),hn (.inl (.inr (.inr (.inl rfl))))⟩,
  h2.mv hm (fun b q=> .inr q) ⟨hn (.inl (.inr (.inr (.inr (.inl rfl))))),hn (.inr (.inr (.inr (.inr (.inl rfl))))),hn (.inr (.inr (.inr (.inr (.inr (.inl rfl)))))),hn (.inr (.inr (.inr (.inr (.inr (.inr rfl)))))),hn (.inl (.inr (.inr (.inr (.inr rfl)))))⟩ fun b e=>(h3 b e).1,
  fun b e=>⟨(h3 b e).1,(h3 b e).2.1,by have:=(h3 b e).2.2;omega⟩⟩,h4,fun b e=>⟨by have:=(h5 b e).1;omega,(h5 b e).2⟩⟩
theorem Tryz.gB.ok.ne {d:gB} {n0:Nat} (h:d.ok n0):(d.S≠d.S2∧d.S≠d.B2∧d.M≠d.S2∧d.M≠d.B2∧d.B≠d.S2∧d.B≠d.B2)∧(d.P≠d.S2∧d.P≠d.B2∧d.L≠d.S2∧d.L≠d.B2∧d.Bs≠d.S2∧d.Bs≠d.B2)∧(d.P2≠d.S∧d.P2≠d.M∧d.P2≠d.B∧d.L2≠d.S∧d.L2≠d.M∧d.L2≠d.B∧d.jh≠d.S∧d.jh≠d.M∧d.jh≠d.B)∧(d.S<d.b2∧d.M<d.b2∧d.B<d.b2∧d.P<d.b2∧d.L<d.b2∧d.Bs<d.b2∧d.S2<d.b2∧d.B2<d.b2∧d.P2<d.b2∧d.L2<d.b2∧d.jh<d.b2)∧(¬d.all d.X7∧n0≤d.X7)∧ ∀b,b<n0→ ¬d.all b:=by
 obtain ⟨n1,n2,n3,n4,q1,q2,⟨q3,q4,q5,q6⟩,⟨q7,q8,q9,LM⟩,⟨q11,q12,q13,q14⟩,⟨CF,q16,q17,q18⟩,⟨LP,LQ⟩,⟨LU,q22⟩,q23,q24⟩:=h.ex;refine ⟨⟨by omega,by omega,by omega,by omega,by omega,by omega⟩,⟨by omega,by omega,by omega,by omega,by omega,by omega⟩,⟨by omega,by omega,by omega,by omega,by omega,by omega,by omega,by omega,by omega⟩,⟨by omega,by omega,by omega,by omega,by omega,by omega,by omega,by omega,by omega,by omega,by omega⟩,⟨?_,q1⟩,?_⟩
 ·rintro ((e|e|e|e|e)|e|e|e|e|e|e)<;>omega
 ·rintro b hb ((e|e|e|e|e)|e|e|e|e|e|e)<;>omega
theorem Tryz.Duo.Ty (h:Duo n0 Z w d r s1 g1 s2 g2) {w':World} {lv:Value} (hlv:RW (fun b=>d.A b∨Z b) w d.S2 d.P2 d.L2 d.jh d.B2 20000 d.b2 r s2 g2 lv) (hz: ∀b,lv.ownBlock=some b→ ¬Z b∧d.b2≤b∧b<w.heap.size) (h1:PW (fun b=>(d.A b∨Z b)∨lv.ownBlock=some b) w' d.S d.P d.L d.Bs d.B d.M 20000 r s1' g1') (hm:Dw.Mv (sK d.S d.M d.B) w w'):Duo n0 Z w' d r s1' g1' s2 g2∧Dw.Mv (fun b=> ¬Z b) w w':=by
 obtain ⟨⟨e1,e2,e3,e4,e5,e6⟩,⟨f1,f2,f3,f4,f5,f6⟩,⟨c1,c2,c3,c4,c5,c6,c7,c8,c9⟩,⟨b1,b2,b3,b4,b5,b6,b7,b8,b9,b10,b11⟩,_,_⟩:=h.st.ne;have hs:=hm.size;have hA: ∀b,sK d.S d.M d.B b→d.A b:=fun b q=>by
  rcases q with q|q|q
  ·exact .inl q
  ·exact .inr (.inl q)
  ·exact .inr (.inr (.inl q))
 refine ⟨⟨⟨lv,h1,hlv.mv hm (fun b q=> .inl (hA b q)) ⟨?_,?_,?_,?_,?_⟩ fun b e=> ?_,fun b e=>⟨(hz b e).1,(hz b e).2.1,by have:=(hz b e).2.2;omega⟩⟩,h.st,fun b e=>⟨by have:=(h.za b e).1;omega,(h.za b e).2⟩⟩,hm.mono fun b q hq=>(h.za b hq).2 (.inl (hA b q))⟩
 ·rintro (q|q|q)
  ·exact e1.symm q
  ·exact e3.symm q
  ·exact e5.symm q
 ·rintro (q|q|q)
  ·exact c1 q
  ·exact c2 q
  ·exact c3 q
 ·rintro (q|q|q)
  ·exact c4 q
  ·exact c5 q
  ·exact c6 q
 ·rintro (q|q|q)
  ·exact c7 q
  ·exact c8 q
  ·exact c9 q
 ·rintro (q|q|q)
  ·exact e2.symm q
  ·exact e4.symm q
  ·exact e6.symm q
 ·have q0:=(hz b e).2.1;clear e1 e2 e3 e4 e5 e6 f1 f2 f3 f4 f5 f6 c1 c2 c3 c4 c5 c6 c7 c8 c9;rintro (q|q|q)<;>omega
theorem Tryz.Duo.Tz (h:Duo n0 Z w d r s1 g1 s2 g2) {w':World} {lv dJ:Value} (h1:PW (fun b=>(d.A b∨Z b)∨lv.ownBlock=some b) w d.S d.P d.L d.Bs d.B d.M 20000 r s1 g1) (hz: ∀b,lv.ownBlock=some b→ ¬Z b∧d.b2≤b∧b<w.heap.size) (h2:RW (fun b=>d.A b∨Z b) w' d.S2 d.P2 d.L2 d.jh d.B2 20000 d.b2 r s2' g2' dJ) (hl: ∀b,dJ.ownBlock=some b→lv.ownBlock=some b∨w.heap.size≤b) (hm:Dw.Mv (fun b=>b=d.S2∨b=d.B2∨lv.ownBlock=some b) w w'):Duo n0 Z w' d r s1 g1 s2' g2'∧Dw.Mv (fun b=> ¬Z b) w w':=by
 obtain ⟨⟨e1,e2,e3,e4,e5,e6⟩,⟨f1,f2,f3,f4,f5,f6⟩,_,⟨b1,b2,b3,b4,b5,b6,b7,b8,b9,b10,b11⟩,_,_⟩:=h.st.ne;have hs:=hm.size;obtain ⟨_,_,vs,_,_,⟨_,⟨_,hrow⟩,_⟩,_⟩:=h2.obj;have hb2:d.b2≤w.heap.size:=by obtain ⟨_,_,hR,_⟩:=h.ex;exact hR.b2
 have hn: ∀ {b:Nat},b<d.b2→lv.ownBlock≠some b:=fun hb e=>by have:=(hz _ e).2.1;omega
 refine ⟨⟨⟨dJ,h1.vD (K:=fun b=>b=d.S2∨b=d.B2∨lv.ownBlock=some b) (fun b hb q=> ?_) (.inl (.inl (.inl rfl))) (.inl (.inl (.inr (.inl rfl)))) (.inl (.inl (.inr (.inr (.inl rfl))))) (fun b q=> ?_) hm (fun b q=> ?_) ⟨?_,?_,?_,?_,?_,?_⟩,h2,fun b e=>⟨?_,(hrow.lt b e).1,(hrow.lt b e).2⟩⟩,h.st,fun b e=>⟨by have:=(h.za b e).1;omega,(h.za b e).2⟩⟩,hm.mono fun b q hq=> ?_⟩
 ·rcases q with q|q
  ·exact .inl q
  ·rcases hl b q with q|q
   ·exact .inr q
   ·omega
 ·rcases q with q|q
  ·exact h2.lt b q
  ·exact (hrow.lt b q).2
 ·rcases q with q|q|q
  ·exact .inl (.inl (.inr (.inr (.inr (.inl q)))))
  ·exact .inl (.inl (.inr (.inr (.inr (.inr q)))))
  ·exact .inr q
 ·rintro (q|q|q)
  ·exact e1 q
  ·exact e2 q
  ·exact hn b1 q
 ·rintro (q|q|q)
  ·exact e3 q
  ·exact e4 q
  ·exact hn b2 q
 ·rintro (q|q|q)
  ·exact f1 q
  ·exact f2 q
  ·exact hn b4 q
 ·rintro (q|q|q)
  ·exact f3 q
  ·exact f4 q
  ·exact hn b5 q
 ·rintro (q|q|q)
  ·exact f5 q
  ·exact f6 q
  ·exact hn b6 q
 ·rintro (q|q|q)
  ·exact e5 q
  ·exact e6 q
  ·exact hn b3 q
 ·rcases hl b e with q|q
  ·exact (hz b q).1
  ·intro hq;have:=(h.za b hq).1;omega
 ·have hA:=(h.za b hq).2;rcases q with q|q|q
  ·exact hA (.inl (.inr (.inr (.inr (.inl q)))))
  ·exact hA (.inl (.inr (.inr (.inr (.inr q)))))
  ·exact (hz b q).1 hq
theorem Tryz.F3 (h:Duo n0 Z w d r s1 g1 s2 g2) {f:FuncId} {args:Array Value} {U:Value} (hc: ∀A,PW A w d.S d.P d.L d.Bs d.B d.M 20000 r s1 g1→Calls prog f args w fun e w'=>e= .returned U∧PW A w' d.S d.P d.L d.Bs d.B d.M 20000 r s1' g1'∧Dw.Mv (sK d.S d.M d.B) w w'):
  Calls prog f args w fun e w'=>e= .returned U∧Duo n0 Z w' d r s1' g1' s2 g2∧Dw.Mv (fun b=> ¬Z b) w w':=by
 obtain ⟨lv,h1,h2,h3⟩:=h.ex;exact (hc _ h1).mono fun e w' hh=>⟨hh.1,h.Ty h2 h3 hh.2.1 hh.2.2⟩
theorem Tryz.Ga (h:Duo n0 Z w d r s1 g1 s2 g2) {f:FuncId} {args:Array Value} {U:Value} (hc: ∀A lv,RW A w d.S2 d.P2 d.L2 d.jh d.B2 20000 d.b2 r s2 g2 lv→Calls prog f args w fun e w'=>e= .returned U∧ ∃dJ,RW A w' d.S2 d.P2 d.L2 d.jh d.B2 20000 d.b2 r s2' g2' dJ∧(∀b,dJ.ownBlock=some b→lv.ownBlock=some b∨w.heap.size≤b)∧Dw.Mv (fun b=>b=d.S2∨b=d.B2∨lv.ownBlock=some b) w w'):
  Calls prog f args w fun e w'=>e= .returned U∧Duo n0 Z w' d r s1 g1 s2' g2'∧Dw.Mv (fun b=> ¬Z b) w w':=by
 obtain ⟨lv,h1,h2,h3⟩:=h.ex;exact (hc _ _ h2).mono fun e w' hh=>by
  obtain ⟨rfl,dJ,q1,q2,q3⟩:=hh;exact ⟨rfl,h.Tz h1 h3 q1 q2 q3⟩
theorem Tryz.Vw (h:Duo n0 Z w d r s1 g1 s2 g2) {f:FuncId} {args:Array Value} {U:Value} (hc:GM w d.P d.L d.Bs d.B 20000 g1→Calls prog f args w fun e w'=>e= .returned U∧GM w' d.P d.L d.Bs d.B 20000 g1'∧Mv (· =d.B) w w'):
  Calls prog f args w fun e w'=>e= .returned U∧Duo n0 Z w' d r s1 g1' s2 g2∧Dw.Mv (fun b=> ¬Z b) w w':=by
 obtain ⟨lv,h1,h2,h3⟩:=h.ex;refine (hc h1.mem).mono fun e w' hh=>⟨hh.1,?_⟩;have hm:Dw.Mv (sK d.S d.M d.B) w w':=⟨hh.2.2.os,hh.2.2.tape,hh.2.2.output,hh.2.2.size,fun b hb hn=>hh.2.2.block b hb fun e=>hn (.inr (.inr e))⟩;have hB: ∀b,b<w.heap.size→b≠d.B→w'.heap[b]? =w.heap[b]? :=fun b hb hn=>hh.2.2.block b hb hn;have bS:=h1.kA hm;obtain ⟨sv,o1,o2⟩:=h1.obj;exact h.Ty h2 h3 (h1.next hm hh.2.1 ⟨sv,by
  obtain ⟨arr,e,q1,q2⟩:=o1;exact ⟨arr,e,(hB _ h1.zM (fun e=>h1.sd.2.2.2 e)).trans q1,q2⟩,o2.kept bS⟩ (h1.tk.kept (hB _ h1.Cn fun e=>h1.md.2.2.2 e) bS) h1.pb) hm
theorem Tryz.Vv (h:Duo n0 Z w d r s1 g1 s2 g2) {f:FuncId} {args:Array Value} {U:Value} (hc:bP w d.P2 d.L2 d.jh d.B2 20000 g2→Calls prog f args w fun e w'=>e= .returned U∧bP w' d.P2 d.L2 d.jh d.B2 20000 g2'∧Mv (· =d.B2) w w'):
  Calls prog f args w fun e w'=>e= .returned U∧Duo n0 Z w' d r s1 g1 s2 g2'∧Dw.Mv (fun b=> ¬Z b) w w':=by
 obtain ⟨lv,h1,h2,h3⟩:=h.ex;refine (hc h2.rm).mono fun e w' hh=>⟨hh.1,?_⟩;have hm:Dw.Mv (fun b=>b=d.S2∨b=d.B2) w w':=⟨hh.2.2.os,hh.2.2.tape,hh.2.2.output,hh.2.2.size,fun b hb hn=>hh.2.2.block b hb fun e=>hn (.inr e)⟩;obtain ⟨sv,ct,vs,q1,q2,q3,q4⟩:=h2.obj;refine h.Tz h1 h3 (h2.FN hm hh.2.1 (q1.kept (hh.2.2.block _ q1.lt fun e=>h2.sd.2.2.2 e)) (q2.pG fun b hb hn=>hm.block b hb fun e=>hn (.inl ?_)) rfl q4 h2.pb h2.dn) (fun b e=> .inl e) (hm.mono fun b e=>e.imp_right .inl);rcases e with e|e
 ·rw [e];exact h2.aS
 ·rw [e];exact h2.aB
end
end Go.Proofs
namespace Go.Proofs
open Go.Dw Go.RowKit Go.Maps Go.Sort Go.Deep
theorem Tryz.u16_in (n:Int):0≤IntKind.wrap .u16 n∧IntKind.wrap .u16 n<65536:=by
 unfold IntKind.wrap;simp [IntKind.signed,IntKind.bits];omega
theorem Tryz.zvh (x y:Int):0≤bits .or .u16 x y∧bits .or .u16 x y<65536:=u16_in _
set_option maxRecDepth 100000 in
theorem Tryz.zt6 {f:Int} {x:Bool} (w:World):
  Calls prog 37 #[.int .u16 f,.bool x,.bool false] w fun e w'=> ∃f',e= .returned (.int .u16 f')∧(0≤f'∧f'<65536)∧w'=w:=by
 cases x
 all_goals
  go_enter func37,ntmps37;go_wp2_with fail;go_ret;exact ⟨_,rfl,zvh _ _,rfl⟩
set_option maxRecDepth 100000 in
theorem Tryz.zAg {w:World} {G c:Nat} {xs:List Int} (hG:w.rangeAt G 0 (gW xs)) (hl:xs.length≤1000) (hl0:0<xs.length):
    Calls prog 40 #[.slice (some ⟨G,0,none⟩) xs.length c] w fun e w'=> ∃u,e= .returned u∧aA 5 1 w' w.heap.size u xs.length (gW xs)∧Below w.heap.size w w':=by
  obtain ⟨i,hi,i1,i2,i3⟩:=ybo yQ;have hoe:=Dg w 5 1;have hlen:(gW xs).length=xs.length:=by simp [gW]
  have hone: ∀u∈gW xs,u.oneCell'=true:=fun u hu=>by
    obtain ⟨x,_,rfl⟩:=ya2.1 hu;rfl
  have qm:G<w.heap.size:=World.block_lt_of_cell? w _ (hG 0 _ (yao (by rw [hlen];exact hl0)));have hba:=(yah w.heap.size w).alloc (yab _) (Obj.cells #[] 5);have hnews: ∀j u,(gW xs)[j]? =some u→(w.alloc (Obj.cells #[] 5)).cell? ((⟨G,0,none⟩:Addr).add j)=some u:=fun j u hj=>by
    rw [Dw.addr_add];exact (hba.cell (p:=⟨G,0+j,none⟩) qm).trans (hG j u hj)
  clear hl0;go_enter func40,ntmps40;go_wp2_with (first
    | (at_builtin;go_loud (refine ycp _ rfl _ _ 55 rfl w.heap.size 5 i _ 1 1 (by kernel_rfl) hi i1 i2 i3 rfl (by decide) (.slice (some ⟨w.heap.size,0,none⟩) 0 0) 0 [] rfl hoe ⟨G,0,none⟩ xs.length c (gW xs) rfl (by omega) hnews hone (by unfold maxLen;omega) (by omega) (by simp) ?_);intro u wa h2 h3 h4 h5;go_frame)
    | go_in)
  go_ret;have mh:Below w.heap.size w wa:=⟨h3.os,h3.tape,h3.output,yaw hba.size h3.size,fun b hb=>(h3.block b (by simp;omega) (fun e=>by simp [Value.ownBlock] at e;omega)).trans (hba.block b hb)⟩;refine ⟨u,rfl,?_,mh⟩;unfold aA;simpa using h2
theorem Tryz.zDT {n0:Nat} {Z:Nat→Prop} {w:World} {d:gB} {r:Rg} {ev tb:Bool} (hd:d.ok n0) (hb2:d.b2=w.heap.size) (hn0:n0≤w.heap.size) (hg:GM w d.P d.L d.Bs d.B 20000 (fun _=>0)) (hg2:bP w d.P2 d.L2 d.jh d.B2 20000 (fun _=>0)) (hso:Own w d.S ((PS.fresh ev tb).row r d.P d.M (.slice none 0 0))) (hsm:w.heap[d.M]? =some (.map #[] 0)) (hy:Cl w d.S2 ((PS.fresh ev tb).aJ r d.P2 (.slice none 0 0) (.slice none 0 0) 0)) (hSM:d.S≠d.M) (gN:jG r) (hZ: ∀b,Z b→b<n0∨b=d.X7):Duo n0 Z w d r (PS.fresh ev tb) (fun _=>0) (PS.fresh ev tb) (fun _=>0):=by
 have hn2:r.n≤16:=gN.bnd.2;have hn1:1≤r.n:=gN.bnd.1;obtain ⟨Tg,Tt,hs0,hs1⟩:=hso;have xh:d.S<w.heap.size:=(yap.1 hs0).1;have Ff:d.M<w.heap.size:=(yap.1 hsm).1;have hpb:PB r (PS.fresh ev tb):=⟨⟨ybW 0,by show (0:Int)<r.n;omega⟩,⟨ybW 0,by show (0:Int)<r.n;omega⟩,⟨rfl,by show (0:Int)≤r.n;omega⟩,FV,z32,by show 0≤11;decide,fun h7=>absurd h7 (by show¬7≤0;decide)⟩;obtain ⟨n1,n2,n3,n4,q1,q2,⟨q3,q4,q5,q6⟩,⟨q7,q8,q9,LM⟩,⟨q11,q12,q13,q14⟩,⟨CF,q16,q17,q18⟩,⟨LP,LQ⟩,⟨LU,q22⟩,q23,q24⟩:=hd.ex;have hlB:=hg.bl;have ab3:=hg2.bl;have ab4:=hy.lt;have hA: ∀b,d.A b→b<w.heap.size:=fun b hb=>by rcases hb with rfl|rfl|rfl|rfl|rfl<;>omega
 have hfit:4104+16*r.n≤((20000:Nat):Int):=by omega
 refine ⟨⟨.slice none 0 0,⟨⟨_,⟨Tg,Tt,hs0,hs1⟩,aX.none⟩,⟨⟨#[],0,hsm,⟨⟨fun e he=>by simp at he,by simp⟩,⟨fun e he=>by simp at he,by simp⟩⟩,fun k=>⟨fun _=>rfl,fun l hl=>by cases hl⟩⟩,by simp [PS.fresh],fun e he=>by cases he⟩,hSM,.inl (.inl (.inl rfl)),.inl (.inl (.inr (.inl rfl))),gN,
  hpb,hg,by decide,⟨by omega,by omega,by omega,by omega⟩,⟨by omega,by omega,by omega,by omega⟩,.inl (.inl (.inr (.inr (.inl rfl)))),fun b hb=> ?_,hfit⟩,⟨⟨_,0,[],hy,aX.none,⟨rfl,⟨3,aA.nil 3 3 w d.b2⟩,fun i h=>(by cases h)⟩,fun h7=>absurd h7 (by show¬7≤0;decide)⟩,hg2,.inl (.inr (.inr (.inr (.inl rfl)))),.inl (.inr (.inr (.inr (.inr rfl)))),fun b hb=> ?_,⟨by omega,by omega,by omega,by omega,by omega⟩,by omega,⟨by omega,by omega,by omega,by omega⟩,gN,hpb,by decide,hfit,fun q=>(by rcases q with q|q;exact absurd rfl q;cases q),fun e he=>(by cases he),by simp [PS.fresh]⟩,fun b e=>(by cases e)⟩,hd,fun b hb=> ?_⟩
 ·rcases hb with (hb|hb)|hb
  ·exact hA b hb
  ·rcases hZ b hb with q|q<;>omega
  ·cases hb
 ·rcases hb with hb|hb
  ·exact hA b hb
  ·rcases hZ b hb with q|q<;>omega
 ·have hne:=hd.ne;rcases hZ b hb with q|q
  ·exact ⟨by omega,hne.2.2.2.2.2 b q⟩
  ·exact ⟨by omega,q▸hne.2.2.2.2.1.1⟩
end Go.Proofs
namespace Go.Proofs
set_option maxRecDepth 100000 in
theorem Tryz.IJ {t:Array Value} (h:t.size=341) {v0 v2 v7 v8 v10 v12 v14 v15 v16 v17 v18 v19 v20 v21:Value} (h0:t.getD 0 undef=v0) (h2:t.getD 2 undef=v2) (h7:t.getD 7 undef=v7) (h8:t.getD 8 undef=v8) (h10:t.getD 10 undef=v10) (h12:t.getD 12 undef=v12) (J7:t.getD 14 undef=v14) (J8:t.getD 15 undef=v15) (h16:t.getD 16 undef=v16) (J9:t.getD 17 undef=v17) (h18:t.getD 18 undef=v18) (h19:t.getD 19 undef=v19) (h20:t.getD 20 undef=v20) (h21:t.getD 21 undef=v21):
  ∃ j:Nat→Value,t= #[v0,j 1,v2,j 3,j 4,j 5,j 6,v7,v8,j 9,v10,j 11,v12,j 13,v14,v15,v16,v17,v18,v19,v20,v21,j 22,j 23,j 24,j 25,j 26,j 27,j 28,j 29,j 30,j 31,j 32,j 33,j 34,j 35,j 36,j 37,j 38,j 39,j 40,j 41,j 42,j 43,j 44,j 45,j 46,j 47,j 48,j 49,j 50,j 51,j 52,j 53,j 54,j 55,j 56,j 57,j 58,j 59,j 60,j 61,j 62,j 63,j 64,j 65,j 66,j 67,j 68,j 69,j 70,j 71,j 72,j 73,j 74,j 75,j 76,j 77,j 78,j 79,j 80,j 81,j 82,j 83,j 84,j 85,j 86,j 87,j 88,j 89,j 90,j 91,j 92,j 93,j 94,j 95,j 96,j 97,j 98,j 99,j 100,j 101,j 102,j 103,j 104,j 105,j 106,j 107,j 108,j 109,j 110,j 111,j 112,j 113,j 114,j 115,j 116,j 117,j 118,j 119,j 120,j 121,j 122,j 123,j 124,j 125,j 126,j 127,j 128,j 129,j 130,j 131,j 132,j 133,j 134,j 135,j 136,j 137,j 138,j 139,j 140,j 141,j 142,j 143,j 144,j 145,j 146,j 147,j 148,j 149,j 150,j 151,j 152,j 153,j 154,j 155,j 156,j 157,j 158,j 159,j 160,j 161,j 162,j 163,j 164,j 165,j 166,j 167,j 168,j 169,j 170,j 171,j 172,j 173,j 174,j 175,j 176,j 177,j 178,j 179,j 180,j 181,j 182,j 183,j 184,j 185,j 186,j 187,j 188,j 189,j 190,j 191,j 192,j 193,j 194,j 195,j 196,j 197,j 198,j 199,j 200,j 201,j 202,j 203,j 204,j 205,j 206,j 207,j 208,j 209,j 210,j 211,j 212,j 213,j 214,j 215,j 216,j 217,j 218,j 219,j 220,j 221,j 222,j 223,j 224,j 225,j 226,j 227,j 228,j 229,j 230,j 231,j 232,j 233,j 234,j 235,j 236,j 237,j 238,j 239,j 240,j 241,j 242,j 243,j 244,j 245,j 246,j 247,j 248,j 249,j 250,j 251,j 252,j 253,j 254,j 255,j 256,j 257,j 258,j 259,j 260,j 261,j 262,j 263,j 264,j 265,j 266,j 267,j 268,j 269,j 270,j 271,j 272,j 273,j 274,j 275,j 276,j 277,j 278,j 279,j 280,j 281,j 282,j 283,j 284,j 285,j 286,j 287,j 288,j 289,j 290,j 291,j 292,j 293,j 294,j 295,j 296,j 297,j 298,j 299,j 300,j 301,j 302,j 303,j 304,j 305,j 306,j 307,j 308,j 309,j 310,j 311,j 312,j 313,j 314,j 315,j 316,j 317,j 318,j 319,j 320,j 321,j 322,j 323,j 324,j 325,j 326,j 327,j 328,j 329,j 330,j 331,j 332,j 333,j 334,j 335,j 336,j 337,j 338,j 339,j 340]:=by
 subst h0 h2 h7 h8 h10 h12 J7 J8 h16 J9 h18 h19 h20 h21;obtain ⟨l⟩:=t;exact ⟨fun i=>(⟨l⟩:Array Value).getD i undef,Og l h⟩
set_option maxRecDepth 100000 in
theorem Tryz.yw {t:Array Value} (h:t.size=341) {v0 v2 v7 v8 v10 v12 v14 v15 v16 v17 v18 v19 v20 v21 TI:Value} (h0:t.getD 0 undef=v0) (h2:t.getD 2 undef=v2) (h7:t.getD 7 undef=v7) (h8:t.getD 8 undef=v8) (h10:t.getD 10 undef=v10) (h12:t.getD 12 undef=v12) (J7:t.getD 14 undef=v14) (J8:t.getD 15 undef=v15) (h16:t.getD 16 undef=v16) (J9:t.getD 17 undef=v17) (h18:t.getD 18 undef=v18) (h19:t.getD 19 undef=v19) (h20:t.getD 20 undef=v20) (h21:t.getD 21 undef=v21) (jI:t.getD 99 undef=TI):
  ∃ j:Nat→Value,t= #[v0,j 1,v2,j 3,j 4,j 5,j 6,v7,v8,j 9,v10,j 11,v12,j 13,v14,v15,v16,v17,v18,v19,v20,v21,j 22,j 23,j 24,j 25,j 26,j 27,j 28,j 29,j 30,j 31,j 32,j 33,j 34,j 35,j 36,j 37,j 38,j 39,j 40,j 41,j 42,j 43,j 44,j 45,j 46,j 47,j 48,j 49,j 50,j 51,j 52,j 53,j 54,j 55,j 56,j 57,j 58,j 59,j 60,j 61,j 62,j 63,j 64,j 65,j 66,j 67,j 68,j 69,j 70,j 71,j 72,j 73,j 74,j 75,j 76,j 77,j 78,j 79,j 80,j 81,j 82,j 83,j 84,j 85,j 86,j 87,j 88,j 89,j 90,j 91,j 92,j 93,j 94,j 95,j 96,j 97,j 98,TI,j 100,j 101,j 102,j 103,j 104,j 105,j 106,j 107,j 108,j 109,j 110,j 111,j 112,j 113,j 114,j 115,j 116,j 117,j 118,j 119,j 120,j 121,j 122,j 123,j 124,j 125,j 126,j 127,j 128,j 129,j 130,j 131,j 132,j 133,j 134,j 135,j 136,j 137,j 138,j 139,j 140,j 141,j 142,j 143,j 144,j 145,j 146,j 147,j 148,j 149,j 150,j 151,j 152,j 153,j 154,j 155,j 156,j 157,j 158,j 159,j 160,j 161,j 162,j 163,j 164,j 165,j 166,j 167,j 168,j 169,j 170,j 171,j 172,j 173,j 174,j 175,j 176,j 177,j 178,j 179,j 180,j 181,j 182,j 183,j 184,j 185,j 186,j 187,j 188,j 189,j 190,j 191,j 192,j 193,j 194,j 195,j 196,j 197,j 198,j 199,j 200,j 201,j 202,j 203,j 204,j 205,j 206,j 207,j 208,j 209,j 210,j 211,j 212,j 213,j 214,j 215,j 216,j 217,j 218,j 219,j 220,j 221,j 222,j 223,j 224,j 225,j 226,j 227,j 228,j 229,j 230,j 231,j 232,j 233,j 234,j 235,j 236,j 237,j 238,j 239,j 240,j 241,j 242,j 243,j 244,j 245,j 246,j 247,j 248,j 249,j 250,j 251,j 252,j 253,j 254,j 255,j 256,j 257,j 258,j 259,j 260,j 261,j 262,j 263,j 264,j 265,j 266,j 267,j 268,j 269,j 270,j 271,j 272,j 273,j 274,j 275,j 276,j 277,j 278,j 279,j 280,j 281,j 282,j 283,j 284,j 285,j 286,j 287,j 288,j 289,j 290,j 291,j 292,j 293,j 294,j 295,j 296,j 297,j 298,j 299,j 300,j 301,j 302,j 303,j 304,j 305,j 306,j 307,j 308,j 309,j 310,j 311,j 312,j 313,j 314,j 315,j 316,j 317,j 318,j 319,j 320,j 321,j 322,j 323,j 324,j 325,j 326,j 327,j 328,j 329,j 330,j 331,j 332,j 333,j 334,j 335,j 336,j 337,j 338,j 339,j 340]:=by
 subst h0 h2 h7 h8 h10 h12 J7 J8 h16 J9 h18 h19 h20 h21 jI;obtain ⟨l⟩:=t;exact ⟨fun i=>(⟨l⟩:Array Value).getD i undef,Og l h⟩
open Go.Dw Go.RowKit Go.Maps Go.Sort Go.Deep
structure Tryz.Rf (n:Nat) (d:gB) (av:Value) (j:Nat) (E:Int) (aL:Nat) (tm:Array Value):Prop where
 sz:tm.size=341
 t0:tm.getD 0 undef= .int .i64 n
 t2:tm.getD 2 undef=av
 t7:tm.getD 7 undef= .pointer (some ⟨d.X7,0,none⟩)
 t8:tm.getD 8 undef= .int .u64 (8+16*n)
 t10:tm.getD 10 undef= .pointer (some ⟨d.P,0,none⟩)
 t12:tm.getD 12 undef= .pointer (some ⟨d.P2,0,none⟩)
 t14:tm.getD 14 undef= .pointer (some ⟨d.S,0,none⟩)
 t15:tm.getD 15 undef= .int .i64 E
 t16:tm.getD 16 undef= .pointer (some ⟨d.S2,0,none⟩)
 t17:tm.getD 17 undef= .int .i64 E
 t18:tm.getD 18 undef= .int .i64 j
 t19:tm.getD 19 undef= .pointer (some ⟨aL,0,none⟩)
 t20:tm.getD 20 undef= .pointer (some ⟨aL+1,0,none⟩)
 t21:tm.getD 21 undef= .pointer (some ⟨aL+1+1,0,none⟩)
def Tryz.jX (n0:Nat) (d:gB) (aL b:Nat):Prop:=b<n0∨b=d.X7∨b=aL∨b=aL+1∨b=aL+1+1
def Tryz.znc (n:Nat):List Value:= [.bool true,.int .i64 n,.int .u64 4096,.int .u64 (4096+16*n),.int .u64 (4100+16*n)]
def Tryz.jc (x y z:Int):List Value:= [.int .i64 x,.int .i64 y,.int .i64 z]
structure Tryz.Rw (W0:World) (n:Nat) (d:gB) (r:Rg) (aL:Nat) (c:Pc) (w:World) (s1:PS) (g1:Nat→Int) (s2:PS) (g2:Nat→Int) (p1 p2:List Value):Prop where
 duo:Duo W0.heap.size (jX W0.heap.size d aL) w d r s1 g1 s2 g2
 x7:Cl w d.X7 (znc n)
 act:Cl w aL c.cells
 k20:Cl w (aL+1) p1
 k21:Cl w (aL+1+1) p2
 old:Below W0.heap.size W0 w
section
variable {W0:World} {n:Nat} {d:Tryz.gB} {r:Tryz.Rg} {aL:Nat} {c:Tryz.Pc} {w w':World} {s1 s1':Tryz.PS} {g1 g1':Nat→Int} {s2 s2':Tryz.PS} {g2 g2':Nat→Int} {p1 p2:List Value}
theorem Tryz.Rw.below (h:Rw W0 n d r aL c w s1 g1 s2 g2 p1 p2) (hb:Below w.heap.size w w'):Rw W0 n d r aL c w' s1 g1 s2 g2 p1 p2:=
 ⟨h.duo.below hb,h.x7.below hb h.x7.lt,h.act.below hb h.act.lt,h.k20.below hb h.k20.lt,h.k21.below hb h.k21.lt,h.old.trans (hb.mono h.old.size)⟩
theorem Tryz.Rw.turn (h:Rw W0 n d r aL c w s1 g1 s2 g2 p1 p2) (hd:Duo W0.heap.size (jX W0.heap.size d aL) w' d r s1' g1' s2' g2') (hm:Dw.Mv (fun b=> ¬jX W0.heap.size d aL b) w w'):Rw W0 n d r aL c w' s1' g1' s2' g2' p1 p2:=
 ⟨hd,h.x7.kept (hm.block _ h.x7.lt fun q=>q (.inr (.inl rfl))),h.act.kept (hm.block _ h.act.lt fun q=>q (.inr (.inr (.inl rfl)))),h.k20.kept (hm.block _ h.k20.lt fun q=>q (.inr (.inr (.inr (.inl rfl))))),h.k21.kept (hm.block _ h.k21.lt fun q=>q (.inr (.inr (.inr (.inr rfl))))),
  ⟨hm.os.trans h.old.os,hm.tape.trans h.old.tape,hm.output.trans h.old.output,yaw h.old.size hm.size,fun b hb=>(hm.block b (yae hb h.old.size) fun q=>q (.inl hb)).trans (h.old.block b hb)⟩⟩
theorem Tryz.Duo.oks {n0:Nat} {Z:Nat→Prop} (h:Duo n0 Z w d r s1 g1 s2 g2):(∀x∈s2.sg,x.ok)∧(∀e∈s2.tk,∀x∈e.2.sg,x.ok)∧((s2.ph≠0∨s2.br=true)→s2.dn=false):=by
 obtain ⟨lv,_,h2,_⟩:=h.ex;obtain ⟨sv,ct,vs,_,q2,⟨q5,_,q6⟩,_⟩:=h2.obj;refine ⟨by obtain ⟨_,_,_,q,_⟩:=q2;exact q,fun e he=> ?_,h2.dn⟩;obtain ⟨i,hi,rfl⟩:=ycg.1 he;obtain ⟨_,_,_,q,_⟩:=q6 i hi (by omega);exact q
end
end Go.Proofs
namespace Go.Proofs
open Go.Dw Go.RowKit Go.Maps Go.Sort Go.Deep
set_option maxRecDepth 100000 in
theorem Tryz.zDU {W0 w:World} {n:Nat} {d:gB} {r:Rg} {av:Value} {j aL:Nat} {E:Int} {c:Pc} {s:PS} {g:Nat→Int} {px py pz:Int} {tm:Array Value} (hf:Rf n d av j E aL tm) (hw:Rw W0 n d r aL c w s g s g (jc px py pz) (jc px py pz)) (hI:SI s (j+1)) (hj:j<60):
    (bJ prog [1,1,1,0,0,1,0,0,1,0,1,1,1,1,1,1,1,1,1,1,5]).wp prog (fun ex a' w'=>ex= .normal∧a'.defers= []∧Rf n d av j E aL a'.tmps∧Rw W0 n d r aL c w' s g s g (jc px py pz) (jc px py pz)) ⟨tm,[]⟩ w:=by
  have hal:=hf.sz;obtain ⟨jf,eH⟩:=IJ (t:=tm) hf.sz hf.t0 hf.t2 hf.t7 hf.t8 hf.t10 hf.t12 hf.t14 hf.t15 hf.t16 hf.t17 hf.t18 hf.t19 hf.t20 hf.t21;rw [eH];clear eH hal hf;have hok:=hw.duo.oks;have hlen: ∀e∈s.tk,e.2.sg.length≤1000000:=fun e he=>yaw (hI.seg e he) (by decide);have hsl:s.sg.length≤1000000:=yaw hI.sg (by decide);have htl:s.tk.length≤100000:=yaw hI.len (by omega);have hol:s.out.sg.length<4000000∧ ∀x∈s.out.sg,x.ok:=by
    unfold PS.out;split
    · exact ⟨by omega,hok.1⟩
    · exact ⟨by show ([]:List Sg).length<_;decide,fun x hx=>(by cases hx)⟩
  have hcl:(yx s c.n).length<4000000∧ ∀x∈yx s c.n,x.ok:=by
    unfold yx;split
    · rename_i t ht;have hm:=qJ ht;have:=hlen _ hm;exact ⟨ycT this (by decide),hok.2.1 _ hm⟩
    · exact ⟨by decide,fun x hx=>(by cases hx)⟩
  have KM:(oJ s).length<4000000:=by rw [←Oc,XR];omega
  have KZ:(oJ s).length=s.tk.length:=by rw [←Oc,XR]
  have hdS:=fun w' (hb:Below w.heap.size w w')=>(show∃lv,_ from (hw.duo.below hb).ex);have hS: ∀w',Below w.heap.size w w'→ ∃A,PW A w' d.S d.P d.L d.Bs d.B d.M 20000 r s g:=fun w' hb=>by
    obtain ⟨lv,h1,_,_⟩:=(hw.duo.below hb).ex;exact ⟨_,h1⟩
  have hY: ∀w',Below w.heap.size w w'→ ∃A lv,RW A w' d.S2 d.P2 d.L2 d.jh d.B2 20000 d.b2 r s g lv:=fun w' hb=>by
    obtain ⟨lv,_,h2,_⟩:=(hw.duo.below hb).ex;exact ⟨_,_,h2⟩
  have hd1:=fun w' hb=>(show Calls _ _ _ w' _ from by obtain ⟨A,h1⟩:=hS w' hb;exact zu8 h1 hok.2.2 hsl);have hd2:=fun w' hb=>(show Calls _ _ _ w' _ from by obtain ⟨A,lv,h2⟩:=hY w' hb;exact zp2 h2 hsl);have hc1:=fun w' hb=>(show Calls _ _ _ w' _ from by obtain ⟨A,h1⟩:=hS w' hb;exact zvb h1 hlen c.n);have hc2:=fun w' hb=>(show Calls _ _ _ w' _ from by obtain ⟨A,lv,h2⟩:=hY w' hb;exact znm h2 htl hlen c.n);have hhS: ∀w',Below w.heap.size w w'→Calls prog 21 #[.pointer (some ⟨d.S,0,none⟩)] w' fun e w2=> ∃v,e= .returned v∧(∀w3,Below w2.heap.size w2 w3→wP w3 v (oJ s))∧Below w'.heap.size w' w2:=fun w' hb=>by
    obtain ⟨A,h1⟩:=hS w' hb;refine (zu4 h1 (by omega)).mono ?_;rintro e w2 ⟨v,t,rfl,hr,hb2⟩;have hr2:aA t 1 w2 w'.heap.size v (oJ s).length (dx (oJ s)):=KZ.symm▸hr;exact ⟨v,rfl,fun w3 hb3=>aA.RZ (aA.kept hr2 fun b e=>hb3.block b (aA.lt hr2 b e).2),hb2⟩
  have hhY: ∀w',Below w.heap.size w w'→Calls prog 49 #[.pointer (some ⟨d.S2,0,none⟩)] w' fun e w2=> ∃v,e= .returned v∧(∀w3,Below w2.heap.size w2 w3→wP w3 v (oJ s))∧Below w'.heap.size w' w2:=fun w' hb=>by
    obtain ⟨A,lv,h1⟩:=hY w' hb;refine (znd h1 htl).mono ?_;rintro e w2 ⟨v,t,rfl,hr,hb2⟩;rw [Oc] at hr;have hr2:aA t 1 w2 w'.heap.size v (oJ s).length (dx (oJ s)):=KZ.symm▸hr;exact ⟨v,rfl,fun w3 hb3=>aA.RZ (aA.kept hr2 fun b e=>hb3.block b (aA.lt hr2 b e).2),hb2⟩
  have hin: ∀w' v1 v2,wP w' v1 (oJ s)→wP w' v2 (oJ s)→Calls prog 48 #[v1,v2] w' fun e w2=>e= .returned (.bool true)∧Below w'.heap.size w' w2:=fun w' v1 v2 h1 h2=>by
    have:=zvM h1 h2 KM KM;simpa only [ydD] using this
  have hbz: ∀w',Below w.heap.size w w'→Calls prog 26 #[.pointer (some ⟨d.S,0,none⟩)] w' fun e w2=>e= .returned (.bool (s.bT !=0))∧Below w'.heap.size w' w2:=fun w' hb=>by
    obtain ⟨A,h1⟩:=hS w' hb;refine (H8 h1).mono ?_;rintro e w2 ⟨rfl,rfl⟩;refine ⟨?_,yah _ _⟩;have:decide (s.ph≠0)=(s.bT !=0):=by
      unfold PS.bT;by_cases h0:s.ph=0
      · simp [h0]
      · have h2: ¬(if s.ph≤6 then (s.ph:Int) else s.ph+4)=0:=by split<;>omega
        have h3:((if s.ph≤6 then (s.ph:Int) else s.ph+4) !=0)=true:=ydU.2 h2;rw [yaG h0];exact h3.symm
    rw [this]
  have QV: ∀w',Below w.heap.size w w'→Calls prog 28 #[.pointer (some ⟨d.S,0,none⟩)] w' fun e w2=>e= .returned (.int .i64 (if s.br then 4 else 0))∧Below w'.heap.size w' w2:=fun w' hb=>by
    obtain ⟨A,h1⟩:=hS w' hb;refine (zs9 h1).mono ?_;rintro e w2 ⟨rfl,rfl⟩;exact ⟨rfl,yah _ _⟩
  have QW: ∀w',Below w.heap.size w w'→Calls prog 50 #[.pointer (some ⟨d.S2,0,none⟩)] w' fun e w2=>e= .returned (.int .i64 (if s.br then 4 else 0))∧Below w'.heap.size w' w2:=fun w' hb=>by
    obtain ⟨A,lv,h1⟩:=hY w' hb;refine (zt9 h1).mono ?_;rintro e w2 ⟨rfl,rfl⟩;exact ⟨rfl,yah _ _⟩
  generalize hev:(if s.br then (4:Int) else 0)=ev at QV QW;clear hev;have hS2: ∀w',Below w.heap.size w w'→w'.cell? ⟨d.S2,14,none⟩=some (.int .i64 s.bT):=fun w' hb=>by
    obtain ⟨A,lv,h1⟩:=hY w' hb;obtain ⟨sv,ct,vs,q1,_⟩:=h1.obj;exact q1.cell 14 _ rfl
  have y1:=hw.act.cell 1 _ rfl;have hr0:=yah w.heap.size w;clear hdS;refine ya3 (?_:Code.wp _ _ (fun ex a' w'=>ex= .normal∧a'.defers= []∧Rf n d av j E aL a'.tmps∧Below w.heap.size w w') _ _) fun ex a' w' hh=>⟨hh.1,hh.2.1,hh.2.2.1,hw.below hh.2.2.2⟩;refine jy (c':=(au 1 (au 1 (au 1 (au 0 (au 0 (au 1 (au 0 (au 0 (au 1 (au 0 (au 1 (au 1 (au 1 (au 1 (au 1 (au 1 (au 1 (au 1 (au 1 (au 1 (match (Tryz.f5).body with|some c=>c|none=> .skip)))))))))))))))))))))) (by kernel_rfl) ?_
  dsimp only [Tryz.f5,au]
  go_wp2_with (first
    | (go_at_call 14;refine (hd1 _ hr0).mono ?_;rintro e wA ⟨u1,rfl,hu1,mh⟩;obtain ⟨sa1,c1,rfl,hj1⟩:=hu1.slice;clear hj1;have EZ:=mh.alloc mh.size (Obj.cells #[.int .i64 s.out.op,.bool s.out.nn,.int .i64 s.out.hd,.slice sa1 s.out.sg.length c1,.int .u32 s.out.wr,.bool s.out.it] 50))
    | (go_at_call 44;refine (hd2 _ EZ).mono ?_;rintro e wB ⟨u2,rfl,hu2,zq⟩;obtain ⟨fU,c2,rfl,hj2⟩:=hu2.slice;clear hj2;have Ky:=EZ.trans (zq.mono EZ.size);have BI:=Ky.alloc Ky.size (Obj.cells #[.int .i64 s.out.op,.bool s.out.nn,.int .i64 s.out.hd,.slice fU s.out.sg.length c2,.int .u32 s.out.wr,.bool s.out.it] 50);have yB:=(hw.act.below BI hw.act.lt).cell 1 _ rfl)
    | (go_at_call 45;refine (hc1 _ BI).mono ?_;rintro e wC ⟨u3,rfl,hu3,hbC⟩;have BK:=BI.trans (hbC.mono BI.size);have yC:=(hw.act.below BK hw.act.lt).cell 1 _ rfl)
    | (go_at_call 46;refine (hc2 _ BK).mono ?_;rintro e wD ⟨u4,rfl,zF,hbD⟩;have E5:=BK.trans (hbD.mono BK.size))
    | go_in)
  have xE: ∀w',Below wD.heap.size wD w'→Below w.heap.size w w':=fun w' hb=>E5.trans (hb.mono E5.size);have BJ:Below wB.heap.size wB wD:=((yah wB.heap.size wB).alloc (yab _) _).trans ((hbC.mono (by simp)).trans ((hbD.mono (by have:=hbC.size;simp at this;omega))));have Kw:Below wA.heap.size wA wD:=((yah wA.heap.size wA).alloc (yab _) _).trans ((zq.mono (by simp)).trans (BJ.mono (by have:=zq.size;simp at this;omega)));have Kz:Below wC.heap.size wC wD:=hbD;have Ka: ∀(b2 b:Nat),b2≤b→b<wA.heap.size→ ¬(fun _:Nat=>False) b:=fun _ _ _ _ q=>q;have TD:=Ae (A:=fun _=>False) hu1 hol.2 (fun _ _ _ q=>q);have TF:=Ae (A:=fun _=>False) hu2 hol.2 (fun _ _ _ q=>q);have TG:=Ae (A:=fun _=>False) hu3 hcl.2 (fun _ _ _ q=>q);have TH:=Ae (A:=fun _=>False) zF hcl.2 (fun _ _ _ q=>q);have hsv: ∀w',Below wD.heap.size wD w'→Calls prog 47 #[.agg #[.int .i64 s.out.op,.bool s.out.nn,.int .i64 s.out.hd,.slice sa1 s.out.sg.length c1,.int .u32 s.out.wr,.bool s.out.it],.agg #[.int .i64 s.out.op,.bool s.out.nn,.int .i64 s.out.hd,.slice fU s.out.sg.length c2,.int .u32 s.out.wr,.bool s.out.it]] w' fun e w2=>e= .returned (.bool true)∧Below w'.heap.size w' w2:=fun w' hb=>ztT (aX.below TD (Kw.trans (hb.mono Kw.size))) (aX.below TF (BJ.trans (hb.mono BJ.size))) hol.1;have hss: ∀w',Below wD.heap.size wD w'→Calls prog 15 #[u3,u4] w' fun e w2=>e= .returned (.bool true)∧Below w'.heap.size w' w2:=fun w' hb=>by
    have:=Z7 (aX.below TG (Kz.trans (hb.mono Kz.size))) (aX.below TH hb) hcl.1 hcl.1;simpa only [ydD] using this
  have k20:=(hw.k20.below E5 hw.k20.lt);have k21:=(hw.k21.below E5 hw.k21.lt);have pq:Cl wD wA.heap.size [.int .i64 s.out.op,.bool s.out.nn,.int .i64 s.out.hd,.slice sa1 s.out.sg.length c1,.int .u32 s.out.wr,.bool s.out.it]:=(Cl.new wA #[.int .i64 s.out.op,.bool s.out.nn,.int .i64 s.out.hd,.slice sa1 s.out.sg.length c1,.int .u32 s.out.wr,.bool s.out.it] 50).below (zq.trans (BJ.mono zq.size)) (by simp);have pE:Cl wD wB.heap.size [.int .i64 s.out.op,.bool s.out.nn,.int .i64 s.out.hd,.slice fU s.out.sg.length c2,.int .u32 s.out.wr,.bool s.out.it]:=(Cl.new wB #[.int .i64 s.out.op,.bool s.out.nn,.int .i64 s.out.hd,.slice fU s.out.sg.length c2,.int .u32 s.out.wr,.bool s.out.it] 50).below (hbC.trans (hbD.mono hbC.size)) (by simp);have hyl:True:=trivial;have hb0:=(yah wD.heap.size wD).drew;have hT:=fun w' (hb:Below wD.heap.size wD w')=>And.intro ((k20.below hb k20.lt).cell 0 _ rfl) (And.intro ((k20.below hb k20.lt).cell 1 _ rfl) (And.intro ((k20.below hb k20.lt).cell 2 _ rfl) (And.intro ((k21.below hb k21.lt).cell 0 _ rfl) (And.intro ((k21.below hb k21.lt).cell 1 _ rfl) (And.intro ((k21.below hb k21.lt).cell 2 _ rfl) (And.intro ((pq.below hb pq.lt).cell 0 _ rfl) (And.intro ((pq.below hb pq.lt).cell 1 _ rfl) (And.intro ((pq.below hb pq.lt).cell 2 _ rfl) (And.intro ((pq.below hb pq.lt).cell 3 _ rfl) (And.intro ((pq.below hb pq.lt).cell 4 _ rfl) (And.intro ((pq.below hb pq.lt).cell 5 _ rfl) (And.intro ((pE.below hb pE.lt).cell 0 _ rfl) (And.intro ((pE.below hb pE.lt).cell 1 _ rfl) (And.intro ((pE.below hb pE.lt).cell 2 _ rfl) (And.intro ((pE.below hb pE.lt).cell 3 _ rfl) (And.intro ((pE.below hb pE.lt).cell 4 _ rfl) (And.intro ((pE.below hb pE.lt).cell 5 _ rfl) (hS2 _ (xE _ hb)))))))))))))))))));obtain ⟨f0,f1,f2,f3,f4,f5,f6,f7,f8,f9,f10,f11,f12,f13,f14,f15,f16,f17,f18⟩:=hT _ (yah _ _);clear hS hY hd1 hd2 hc1 hc2 y1 yB yC hu1 hu2 hu3 zF mh zq hbC hbD EZ Ky BI BK hw hI Kw BJ Kz Ka TD TF TG TH hyl hr0 hlen hsl htl hok hol hcl KM KZ;go_region_held3 (fun w'=>w'.cell? ⟨aL+1,0,none⟩=some (.int .i64 px)∧w'.cell? ⟨aL+1,1,none⟩=some (.int .i64 py)∧w'.cell? ⟨aL+1,2,none⟩=some (.int .i64 pz)∧w'.cell? ⟨aL+1+1,0,none⟩=some (.int .i64 px)∧w'.cell? ⟨aL+1+1,1,none⟩=some (.int .i64 py)∧w'.cell? ⟨aL+1+1,2,none⟩=some (.int .i64 pz)∧w'.cell? ⟨wA.heap.size,0,none⟩=some (.int .i64 s.out.op)∧w'.cell? ⟨wA.heap.size,1,none⟩=some (.bool s.out.nn)∧w'.cell? ⟨wA.heap.size,2,none⟩=some (.int .i64 s.out.hd)∧w'.cell? ⟨wA.heap.size,3,none⟩=some (.slice sa1 s.out.sg.length c1)∧w'.cell? ⟨wA.heap.size,4,none⟩=some (.int .u32 s.out.wr)∧w'.cell? ⟨wA.heap.size,5,none⟩=some (.bool s.out.it)∧w'.cell? ⟨wB.heap.size,0,none⟩=some (.int .i64 s.out.op)∧w'.cell? ⟨wB.heap.size,1,none⟩=some (.bool s.out.nn)∧w'.cell? ⟨wB.heap.size,2,none⟩=some (.int .i64 s.out.hd)∧w'.cell? ⟨wB.heap.size,3,none⟩=some (.slice fU s.out.sg.length c2)∧w'.cell? ⟨wB.heap.size,4,none⟩=some (.int .u32 s.out.wr)∧w'.cell? ⟨wB.heap.size,5,none⟩=some (.bool s.out.it)∧w'.cell? ⟨d.S2,14,none⟩=some (.int .i64 s.bT)) (go_keep)
    ((first
      | (go_at_call 47;refine (hsv _ (hb0)).mono ?_;rintro en w1 ⟨rfl,hb1'⟩;have hb1:=hb0.trans (hb1'.mono hb0.size);clear f0 f1 f2 f3 f4 f5 f6 f7 f8 f9 f10 f11 f12 f13 f14 f15 f16 f17 f18;obtain ⟨f0,f1,f2,f3,f4,f5,f6,f7,f8,f9,f10,f11,f12,f13,f14,f15,f16,f17,f18⟩:=hT _ hb1)
      | (go_at_call 21;refine (hhS _ (xE _ hb1)).mono ?_;rintro en w2 ⟨v1,rfl,hi1,hb2'⟩;have hb2:=hb1.trans (hb2'.mono hb1.size);clear f0 f1 f2 f3 f4 f5 f6 f7 f8 f9 f10 f11 f12 f13 f14 f15 f16 f17 f18;obtain ⟨f0,f1,f2,f3,f4,f5,f6,f7,f8,f9,f10,f11,f12,f13,f14,f15,f16,f17,f18⟩:=hT _ hb2)
      | (go_at_call 49;refine (hhY _ (xE _ hb2)).mono ?_;rintro en w3 ⟨v2,rfl,hi2,QS⟩;have hb3:=hb2.trans (QS.mono hb2.size);clear f0 f1 f2 f3 f4 f5 f6 f7 f8 f9 f10 f11 f12 f13 f14 f15 f16 f17 f18;obtain ⟨f0,f1,f2,f3,f4,f5,f6,f7,f8,f9,f10,f11,f12,f13,f14,f15,f16,f17,f18⟩:=hT _ hb3)
      | (go_at_call 48;refine (hin _ v1 v2 (hi1 _ QS) (hi2 _ (yah _ _))).mono ?_;rintro en w4 ⟨rfl,aas⟩;have hb4:=hb3.trans (aas.mono hb3.size);clear f0 f1 f2 f3 f4 f5 f6 f7 f8 f9 f10 f11 f12 f13 f14 f15 f16 f17 f18;obtain ⟨f0,f1,f2,f3,f4,f5,f6,f7,f8,f9,f10,f11,f12,f13,f14,f15,f16,f17,f18⟩:=hT _ hb4)
      | (go_at_call 26;refine (hbz _ (xE _ hb4)).mono ?_;rintro en w5 ⟨rfl,zn⟩;have hb5:=hb4.trans (zn.mono hb4.size);clear f0 f1 f2 f3 f4 f5 f6 f7 f8 f9 f10 f11 f12 f13 f14 f15 f16 f17 f18;obtain ⟨f0,f1,f2,f3,f4,f5,f6,f7,f8,f9,f10,f11,f12,f13,f14,f15,f16,f17,f18⟩:=hT _ hb5)
      | (go_at_call 28;refine (QV _ (xE _ hb5)).mono ?_;rintro en w6 ⟨rfl,zo⟩;have hb6:=hb5.trans (zo.mono hb5.size);clear f0 f1 f2 f3 f4 f5 f6 f7 f8 f9 f10 f11 f12 f13 f14 f15 f16 f17 f18;obtain ⟨f0,f1,f2,f3,f4,f5,f6,f7,f8,f9,f10,f11,f12,f13,f14,f15,f16,f17,f18⟩:=hT _ hb6)
      | (go_at_call 50;refine (QW _ (xE _ hb6)).mono ?_;rintro en w7 ⟨rfl,aav⟩;have fu:=hb6.trans (aav.mono hb6.size);clear f0 f1 f2 f3 f4 f5 f6 f7 f8 f9 f10 f11 f12 f13 f14 f15 f16 f17 f18;obtain ⟨f0,f1,f2,f3,f4,f5,f6,f7,f8,f9,f10,f11,f12,f13,f14,f15,f16,f17,f18⟩:=hT _ fu)
      | (go_at_call 15;refine (hss _ (fu)).mono ?_;rintro en w8 ⟨rfl,aaw⟩;have dY:=fu.trans (aaw.mono fu.size);clear f0 f1 f2 f3 f4 f5 f6 f7 f8 f9 f10 f11 f12 f13 f14 f15 f16 f17 f18;obtain ⟨f0,f1,f2,f3,f4,f5,f6,f7,f8,f9,f10,f11,f12,f13,f14,f15,f16,f17,f18⟩:=hT _ dY)))
  all_goals (go_wp2_with fail)
  all_goals (first|exact ⟨rfl,rfl,rfl,rfl,rfl,rfl,rfl,rfl,rfl,rfl,rfl,rfl,rfl,rfl,rfl⟩|exact xE _ dY)
def Tryz.wH (W0:World) (n:Nat) (d:gB) (r:Rg) (av:Value) (j aL:Nat) (c:Pc):Exit→Act→World→Prop:=fun ex a' w'=>match ex with
 | .normal=>a'.defers= []∧ ∃(E':Int) (s':PS) (g':Nat→Int) (px py pz:Int),Rf n d av j E' aL a'.tmps∧Rw W0 n d r aL c w' s' g' s' g' (jc px py pz) (jc px py pz)∧SI s' (j+1)
 | _=>False
set_option maxRecDepth 100000 in
theorem Tryz.zAI {W0 w:World} {n:Nat} {d:gB} {r:Rg} {av:Value} {j aL:Nat} {E:Int} {c:Pc} {s:PS} {g:Nat→Int} {tm:Array Value} (hf:Rf n d av j E aL tm) (jI:tm.getD 99 undef= .int .i64 0) (hw:Rw W0 n d r aL c w s g s g (jc 0 0 0) (jc 0 0 0)) (hI:SI s j) (hj:j<60):
    (bJ prog [1,0,1,1,0,0,1,0,0,1,0,1,1,1,1,1,1,1,1,1,1,5]).wp prog (wH W0 n d r av j aL c) ⟨tm,[]⟩ w:=by
  have hal:=hf.sz;obtain ⟨jf,eH⟩:=yw (t:=tm) hf.sz hf.t0 hf.t2 hf.t7 hf.t8 hf.t10 hf.t12 hf.t14 hf.t15 hf.t16 hf.t17 hf.t18 hf.t19 hf.t20 hf.t21 jI;rw [eH];clear eH hal hf jI;refine jy (c':=(au 1 (au 0 (au 1 (au 1 (au 0 (au 0 (au 1 (au 0 (au 0 (au 1 (au 0 (au 1 (au 1 (au 1 (au 1 (au 1 (au 1 (au 1 (au 1 (au 1 (au 1 (match (f5).body with|some c=>c|none=> .skip))))))))))))))))))))))) (by kernel_rfl) ?_
  dsimp only [f5,au]
  go_wp2_with (first
    | (go_at_call 12;refine (F3 hw.duo fun A h=>zwL h).mono ?_;rintro e w1 ⟨rfl,hd1,hm1⟩)
    | (go_at_call 34;refine (Ga hd1 fun A lv h=>(zpT h).mono fun e w' hh=>⟨hh.1,lv,hh.2.1,fun _ q=> .inl q,hh.2.2.mono fun _ q=> .inl q⟩).mono ?_;rintro e w2 ⟨rfl,hd2,hm2⟩)
    | go_in)
  exact ⟨rfl,_,_,g,0,0,0,⟨rfl,rfl,rfl,rfl,rfl,rfl,rfl,rfl,rfl,rfl,rfl,rfl,rfl,rfl,rfl⟩,(hw.turn hd1 hm1).turn hd2 hm2,hI.poll.up⟩
set_option maxRecDepth 100000 in
theorem Tryz.zAH {W0 w:World} {n:Nat} {d:gB} {r:Rg} {av:Value} {j aL:Nat} {E:Int} {c:Pc} {s:PS} {g:Nat→Int} {tm:Array Value} (hf:Rf n d av j E aL tm) (jI:tm.getD 99 undef= .int .i64 1) (hw:Rw W0 n d r aL c w s g s g (jc 0 0 0) (jc 0 0 0)) (hI:SI s j) (hj:j<60) (hco:0≤c.v∧c.v<4294967296):
    (bJ prog [1,0,1,1,0,0,1,0,0,1,0,1,1,1,1,1,1,1,1,1,1,5]).wp prog (wH W0 n d r av j aL c) ⟨tm,[]⟩ w:=by
  have hal:=hf.sz;obtain ⟨jf,eH⟩:=yw (t:=tm) hf.sz hf.t0 hf.t2 hf.t7 hf.t8 hf.t10 hf.t12 hf.t14 hf.t15 hf.t16 hf.t17 hf.t18 hf.t19 hf.t20 hf.t21 jI;rw [eH];clear eH hal hf jI;have x1:=hw.act.cell 1 _ rfl;have x2:=hw.act.cell 2 _ rfl;have hlen: ∀e∈s.tk,e.2.sg.length≤1000000:=fun e he=>yaw (hI.seg e he) (by decide);have htl:s.tk.length≤100000:=yaw hI.len (by omega);have hwd:=hw.below ((yah w.heap.size w).drew);refine jy (c':=(au 1 (au 0 (au 1 (au 1 (au 0 (au 0 (au 1 (au 0 (au 0 (au 1 (au 0 (au 1 (au 1 (au 1 (au 1 (au 1 (au 1 (au 1 (au 1 (au 1 (au 1 (match (f5).body with|some c=>c|none=> .skip))))))))))))))))))))))) (by kernel_rfl) ?_
  dsimp only [f5,au]
  go_wp2_with fail;go_region_held3 (fun w'=>w'.cell? ⟨aL,1,none⟩=some (.int .i64 c.n)∧w'.cell? ⟨aL,2,none⟩=some (.int .u32 c.v)) (go_keep)
    ((first
      | (go_at_call 16;refine (F3 hwd.duo fun A h=>zzK h c.n c.v hco hlen).mono ?_;rintro en w1 ⟨rfl,hd1,hm1⟩;have hr1:=hwd.turn hd1 hm1;have z1:=hr1.act.cell 1 _ rfl;have z2:=hr1.act.cell 2 _ rfl)
      | (go_at_call 35;refine (Ga hd1 fun A lv h=>(zt1 h htl hlen c.n c.v hco).mono fun e w' hh=>⟨hh.1,lv,hh.2.1,fun _ q=> .inl q,hh.2.2.mono fun _ q=> .inl q⟩).mono ?_;rintro en w2 ⟨rfl,hd2,hm2⟩;have hr2:=hr1.turn hd2 hm2;have y1:=hr2.act.cell 1 _ rfl;have y2:=hr2.act.cell 2 _ rfl)))
  all_goals (go_wp2_with fail)
  exact ⟨rfl,_,_,g,0,0,0,⟨rfl,rfl,rfl,rfl,rfl,rfl,rfl,rfl,rfl,rfl,rfl,rfl,rfl,rfl,rfl⟩,hr2,(hI.ret c.n c.v).up⟩
section
variable {W0:World} {n:Nat} {d:Tryz.gB} {r:Tryz.Rg} {aL:Nat} {c:Tryz.Pc} {w w':World} {s1:Tryz.PS} {g1:Nat→Int} {s2:Tryz.PS} {g2:Nat→Int} {p1 p2 LC Sy:List Value}
theorem Tryz.Duo.facts {n0:Nat} {Z:Nat→Prop} (h:Duo n0 Z w d r s1 g1 s2 g2):(∀j,0≤g1 j∧g1 j<256)∧(∀e∈s1.tk,1≤e.2.ct∧e.2.ct≤r.n)∧PB r s1:=by
 obtain ⟨lv,h1,_,_⟩:=h.ex;exact ⟨h1.mem.byte,fun e he=>(h1.tk.dH e he).2,h1.pb⟩
theorem Tryz.Rw.Sc (h:Rw W0 n d r aL c w s1 g1 s2 g2 p1 p2) (hx:d.X7<aL∧W0.heap.size≤aL) (hm:Dw.Mv (· =aL+1) w w') (hk:Cl w' (aL+1) LC):Rw W0 n d r aL c w' s1 g1 s2 g2 LC p2:=
 ⟨h.duo.own (hm.mono fun b e=> .inr (.inr (.inr (.inl e)))),h.x7.kept (hm.block _ h.x7.lt (by show¬d.X7=aL+1;omega)),h.act.kept (hm.block _ h.act.lt (by show¬aL=aL+1;omega)),hk,h.k21.kept (hm.block _ h.k21.lt (by show¬aL+1+1=aL+1;omega)),
  ⟨hm.os.trans h.old.os,hm.tape.trans h.old.tape,hm.output.trans h.old.output,yaw h.old.size hm.size,fun b hb=>(hm.block b (yae hb h.old.size) (by show¬b=aL+1;omega)).trans (h.old.block b hb)⟩⟩
theorem Tryz.Rw.Sd (h:Rw W0 n d r aL c w s1 g1 s2 g2 p1 p2) (hx:d.X7<aL∧W0.heap.size≤aL) (hm:Dw.Mv (· =aL+1+1) w w') (hk:Cl w' (aL+1+1) Sy):Rw W0 n d r aL c w' s1 g1 s2 g2 p1 Sy:=
 ⟨h.duo.own (hm.mono fun b e=> .inr (.inr (.inr (.inr e)))),h.x7.kept (hm.block _ h.x7.lt (by show¬d.X7=aL+1+1;omega)),h.act.kept (hm.block _ h.act.lt (by show¬aL=aL+1+1;omega)),h.k20.kept (hm.block _ h.k20.lt (by show¬aL+1=aL+1+1;omega)),hk,
  ⟨hm.os.trans h.old.os,hm.tape.trans h.old.tape,hm.output.trans h.old.output,yaw h.old.size hm.size,fun b hb=>(hm.block b (yae hb h.old.size) (by show¬b=aL+1+1;omega)).trans (h.old.block b hb)⟩⟩
theorem Tryz.IW {b:Nat} {x y z:Value} {l:List Value} (h:Cl w b l) (hl:l.length=3):Cl (((w.setCell ⟨b,0,none⟩ x).setCell ⟨b,1,none⟩ y).setCell ⟨b,2,none⟩ z) b [x,y,z]∧Dw.Mv (· =b) w (((w.setCell ⟨b,0,none⟩ x).setCell ⟨b,1,none⟩ y).setCell ⟨b,2,none⟩ z):=by
 match l,hl with
 | [u0,u1,u2],_=>exact ⟨((h.set 0 x (by simp)).set 1 y (by simp)).set 2 z (by simp),dM (K:=(· =b)) (dM (K:=(· =b)) (dM (K:=(· =b)) (jU (yah _ _)) b 0 x rfl) b 1 y rfl) b 2 z rfl⟩
end
end Go.Proofs
namespace Go.Proofs
open Go.Dw Go.RowKit Go.Maps Go.Sort Go.Deep
set_option maxRecDepth 100000 in
theorem Tryz.zAG {W0 w:World} {n:Nat} {d:gB} {r:Rg} {av:Value} {j aL:Nat} {E:Int} {c:Pc} {s:PS} {g:Nat→Int} {tm:Array Value} (hf:Rf n d av j E aL tm) (jI:tm.getD 99 undef= .int .i64 2) (hw:Rw W0 n d r aL c w s g s g (jc 0 0 0) (jc 0 0 0)) (hI:SI s j) (hj:j<60) (hx:d.X7<aL∧W0.heap.size≤aL) (gN:jG r):
    (bJ prog [1,0,1,1,0,0,1,0,0,1,0,1,1,1,1,1,1,1,1,1,1,5]).wp prog (wH W0 n d r av j aL c) ⟨tm,[]⟩ w:=by
  have hal:=hf.sz;obtain ⟨jf,eH⟩:=yw (t:=tm) hf.sz hf.t0 hf.t2 hf.t7 hf.t8 hf.t10 hf.t12 hf.t14 hf.t15 hf.t16 hf.t17 hf.t18 hf.t19 hf.t20 hf.t21 jI;rw [eH];clear eH hal hf jI;have htl:s.tk.length≤100000:=yaw hI.len (by omega);obtain ⟨hg,hct,hpb⟩:=hw.duo.facts;obtain ⟨x,y,z,hacc⟩:=Y8 20000 r s g;have hst:=F3 hw.duo fun A h=>znA h;have lM: ∀ {w1 g1},Duo W0.heap.size (jX W0.heap.size d aL) w1 d r (eO 20000 r s g).2.2.1 g1 s g→Calls prog 43 #[.pointer (some ⟨d.S2,0,none⟩)] w1 fun e w'=>e= .returned (.tuple #[(eO 20000 r s g).1,.int .i64 (eO 20000 r s g).2.1])∧Duo W0.heap.size (jX W0.heap.size d aL) w' d r (eO 20000 r s g).2.2.1 g1 (eO 20000 r s g).2.2.1 (eO 20000 r s g).2.2.2∧Dw.Mv (fun b=> ¬jX W0.heap.size d aL b) w1 w':=fun hd=>Ga hd fun A lv h=>Wz h (fun h7=>hI.it (by omega)) hct htl hd.facts.2.2;have hIs:=hI.step (N:=20000) (r:=r) hg gN.bnd.1 hpb.ph;rw [hacc] at hst lM;unfold JK at hst lM;generalize hS':(eO 20000 r s g).2.2.1=s' at hst lM hIs;generalize hG':(eO 20000 r s g).2.2.2=g' at hst lM;generalize hE':(eO 20000 r s g).2.1=e' at hst lM;clear hS' hG' hE' hacc hg hct hpb gN;refine jy (c':=(au 1 (au 0 (au 1 (au 1 (au 0 (au 0 (au 1 (au 0 (au 0 (au 1 (au 0 (au 1 (au 1 (au 1 (au 1 (au 1 (au 1 (au 1 (au 1 (au 1 (au 1 (match (f5).body with|some c=>c|none=> .skip))))))))))))))))))))))) (by kernel_rfl) ?_
  dsimp only [f5,au]
  go_wp2_with (first
    | (go_at_call 27;refine hst.mono ?_;rintro e w1 ⟨rfl,hd1,hm1⟩;have hr1:=hw.turn hd1 hm1;have z0:=hr1.k20.cell 0 _ rfl;have z1:=hr1.k20.cell 1 _ rfl;have z2:=hr1.k20.cell 2 _ rfl;have f0:=hr1.k20.free 0;have f1:=hr1.k20.free 1;have f2:=hr1.k20.free 2;have hq1:=IW (x:= .int .i64 x) (y:= .int .i64 y) (z:= .int .i64 z) hr1.k20 rfl;have hr2:=hr1.Sc hx hq1.2 hq1.1)
    | (go_at_call 43;refine (lM hr2.duo).mono ?_;rintro e w3 ⟨rfl,hd3,sV⟩;have hr3:=hr2.turn hd3 sV;clear z0 z1 z2 f0 f1 f2;have z0:=hr3.k21.cell 0 _ rfl;have z1:=hr3.k21.cell 1 _ rfl;have z2:=hr3.k21.cell 2 _ rfl;have f0:=hr3.k21.free 0;have f1:=hr3.k21.free 1;have f2:=hr3.k21.free 2;have hq3:=IW (x:= .int .i64 x) (y:= .int .i64 y) (z:= .int .i64 z) hr3.k21 rfl;have hr4:=hr3.Sd hx hq3.2 hq3.1)
    | go_in)
  exact ⟨rfl,_,_,_,x,y,z,⟨rfl,rfl,rfl,rfl,rfl,rfl,rfl,rfl,rfl,rfl,rfl,rfl,rfl,rfl,rfl⟩,hr4,hIs⟩
set_option maxRecDepth 100000 in
theorem Tryz.zAF {W0 w:World} {n:Nat} {d:gB} {r:Rg} {av:Value} {j aL:Nat} {E:Int} {c:Pc} {s:PS} {g:Nat→Int} {tm:Array Value} (hf:Rf n d av j E aL tm) (jI:tm.getD 99 undef= .int .i64 3) (hw:Rw W0 n d r aL c w s g s g (jc 0 0 0) (jc 0 0 0)) (hI:SI s j) (hj:j<60) (hx:d.X7<aL∧W0.heap.size≤aL) (gN:jG r):
    (bJ prog [1,0,1,1,0,0,1,0,0,1,0,1,1,1,1,1,1,1,1,1,1,5]).wp prog (wH W0 n d r av j aL c) ⟨tm,[]⟩ w:=by
  have hal:=hf.sz;obtain ⟨jf,eH⟩:=yw (t:=tm) hf.sz hf.t0 hf.t2 hf.t7 hf.t8 hf.t10 hf.t12 hf.t14 hf.t15 hf.t16 hf.t17 hf.t18 hf.t19 hf.t20 hf.t21 jI;rw [eH];clear eH hal hf jI;have htl:s.tk.length≤100000:=yaw hI.len (by omega);obtain ⟨hg,hct,hpb⟩:=hw.duo.facts;obtain ⟨x,y,z,hacc⟩:=Y8 20000 r s g;have hst:=F3 hw.duo fun A h=>znA h;have lM: ∀ {w1 g1},Duo W0.heap.size (jX W0.heap.size d aL) w1 d r (eO 20000 r s g).2.2.1 g1 s g→Calls prog 43 #[.pointer (some ⟨d.S2,0,none⟩)] w1 fun e w'=>e= .returned (.tuple #[(eO 20000 r s g).1,.int .i64 (eO 20000 r s g).2.1])∧Duo W0.heap.size (jX W0.heap.size d aL) w' d r (eO 20000 r s g).2.2.1 g1 (eO 20000 r s g).2.2.1 (eO 20000 r s g).2.2.2∧Dw.Mv (fun b=> ¬jX W0.heap.size d aL b) w1 w':=fun hd=>Ga hd fun A lv h=>Wz h (fun h7=>hI.it (by omega)) hct htl hd.facts.2.2;have hIs:=hI.step (N:=20000) (r:=r) hg gN.bnd.1 hpb.ph;rw [hacc] at hst lM;unfold JK at hst lM;generalize hS':(eO 20000 r s g).2.2.1=s' at hst lM hIs;generalize hG':(eO 20000 r s g).2.2.2=g' at hst lM;generalize hE':(eO 20000 r s g).2.1=e' at hst lM;clear hS' hG' hE' hacc hg hct hpb gN;refine jy (c':=(au 1 (au 0 (au 1 (au 1 (au 0 (au 0 (au 1 (au 0 (au 0 (au 1 (au 0 (au 1 (au 1 (au 1 (au 1 (au 1 (au 1 (au 1 (au 1 (au 1 (au 1 (match (f5).body with|some c=>c|none=> .skip))))))))))))))))))))))) (by kernel_rfl) ?_
  dsimp only [f5,au]
  go_wp2_with (first
    | (go_at_call 27;refine hst.mono ?_;rintro e w1 ⟨rfl,hd1,hm1⟩;have hr1:=hw.turn hd1 hm1;have z0:=hr1.k20.cell 0 _ rfl;have z1:=hr1.k20.cell 1 _ rfl;have z2:=hr1.k20.cell 2 _ rfl;have f0:=hr1.k20.free 0;have f1:=hr1.k20.free 1;have f2:=hr1.k20.free 2;have hq1:=IW (x:= .int .i64 x) (y:= .int .i64 y) (z:= .int .i64 z) hr1.k20 rfl;have hr2:=hr1.Sc hx hq1.2 hq1.1)
    | (go_at_call 43;refine (lM hr2.duo).mono ?_;rintro e w3 ⟨rfl,hd3,sV⟩;have hr3:=hr2.turn hd3 sV;clear z0 z1 z2 f0 f1 f2;have z0:=hr3.k21.cell 0 _ rfl;have z1:=hr3.k21.cell 1 _ rfl;have z2:=hr3.k21.cell 2 _ rfl;have f0:=hr3.k21.free 0;have f1:=hr3.k21.free 1;have f2:=hr3.k21.free 2;have hq3:=IW (x:= .int .i64 x) (y:= .int .i64 y) (z:= .int .i64 z) hr3.k21 rfl;have hr4:=hr3.Sd hx hq3.2 hq3.1)
    | go_in)
  exact ⟨rfl,_,_,_,x,y,z,⟨rfl,rfl,rfl,rfl,rfl,rfl,rfl,rfl,rfl,rfl,rfl,rfl,rfl,rfl,rfl⟩,hr4,hIs⟩
set_option maxRecDepth 100000 in
theorem Tryz.zAE {W0 w:World} {n:Nat} {d:gB} {r:Rg} {av:Value} {j aL:Nat} {E:Int} {c:Pc} {s:PS} {g:Nat→Int} {tm:Array Value} (hf:Rf n d av j E aL tm) (jI:tm.getD 99 undef= .int .i64 4) (hw:Rw W0 n d r aL c w s g s g (jc 0 0 0) (jc 0 0 0)) (hI:SI s j) (hj:j<60) (hco:c.ok w) (hn:1≤n∧n≤16):
    (bJ prog [1,0,1,1,0,0,1,0,0,1,0,1,1,1,1,1,1,1,1,1,1,5]).wp prog (wH W0 n d r av j aL c) ⟨tm,[]⟩ w:=by
  have hal:=hf.sz;obtain ⟨jf,eH⟩:=yw (t:=tm) hf.sz hf.t0 hf.t2 hf.t7 hf.t8 hf.t10 hf.t12 hf.t14 hf.t15 hf.t16 hf.t17 hf.t18 hf.t19 hf.t20 hf.t21 jI;rw [eH];clear eH hal hf jI;have x1:=hw.act.cell 1 _ rfl;have x2:=hw.act.cell 2 _ rfl;have x7:=hw.x7.cell 2 _ rfl;have e1:IntKind.wrap .i64 (8+16*(n:Int))=8+16*n:=gy (by omega) (by omega);have e2:IntKind.wrap .i64 (8+16*(n:Int)-2)=6+16*n:=by rw [gy (by omega) (by omega)];omega
  obtain ⟨q,hq,hq2⟩: ∃q:Nat,c.n%(6+16*(n:Int))=q∧q<6+16*n:=by
    have h0:0≤c.n%(6+16*(n:Int)):=ybP _ (by omega);have h1:c.n%(6+16*(n:Int))<6+16*(n:Int):=ybF _ (by omega);exact ⟨(c.n%(6+16*(n:Int))).toNat,by omega,by omega⟩
  have e3:IntKind.wrap .u64 (q:Int)=q:=wrap_u64 _ (by omega) (by omega);obtain ⟨a,ha,ha2⟩: ∃a:Nat,(a:Int)=4096+(q:Int)∧a+2≤20000:=⟨4096+q,by omega,by omega⟩;have e4:IntKind.wrap .u64 (4096+(q:Int))=(a:Int):=by rw [wrap_u64 _ (by omega) (by omega)];omega
  clear hq2 ha;have hM: ∀ {w1:World} (v:Int),Duo W0.heap.size (jX W0.heap.size d aL) w1 d r s g s g→Calls prog 25 #[.pointer (some ⟨d.P,0,none⟩),.int .u64 a,.int .i64 2,.int .u64 v] w1 fun e w'=>e= .returned (.int .i64 0)∧Duo W0.heap.size (jX W0.heap.size d aL) w' d r s (dS g a 2 v) s g∧Dw.Mv (fun b=> ¬jX W0.heap.size d aL b) w1 w':=fun v hd=>Vw hd fun hg=>zrt _ _ _ _ 20000 a 2 v _ _ hg (by decide) (by decide) ha2;have hR: ∀ {w1:World} {g1:Nat→Int} (v:Int),Duo W0.heap.size (jX W0.heap.size d aL) w1 d r s g1 s g→Calls prog 36 #[.pointer (some ⟨d.P2,0,none⟩),.int .u64 a,.int .i64 2,.int .u64 v] w1 fun e w'=>e= .returned (.int .i64 0)∧Duo W0.heap.size (jX W0.heap.size d aL) w' d r s g1 s (dS g a 2 v)∧Dw.Mv (fun b=> ¬jX W0.heap.size d aL b) w1 w':=fun v hd=>Vv hd fun hg=>NT _ _ _ _ 20000 a 2 v _ _ hg (by decide) (by decide) ha2;have hwd:=hw.below ((yah w.heap.size w).drew);refine jy (c':=(au 1 (au 0 (au 1 (au 1 (au 0 (au 0 (au 1 (au 0 (au 0 (au 1 (au 0 (au 1 (au 1 (au 1 (au 1 (au 1 (au 1 (au 1 (au 1 (au 1 (au 1 (match (f5).body with|some c=>c|none=> .skip))))))))))))))))))))))) (by kernel_rfl) ?_
  dsimp only [f5,au]
  go_wp2_with fail;go_region_held3 (fun w'=>w'.cell? ⟨aL,1,none⟩=some (.int .i64 c.n)∧w'.cell? ⟨d.X7,2,none⟩=some (.int .u64 4096)) (go_keep)
    ((first
      | (go_at_call 7;refine (Dv c.n (6+16*n) (by omega) _).mono ?_;rintro en w3 ⟨rfl,hw3⟩;have hw3:=hw3.symm;subst hw3;rw [hq])))
  clear e1 e2 e3 e4 hq ha2 hco hn
  all_goals (go_wp2_with (first
    | (go_at_call 25;refine (hM _ hwd.duo).mono ?_;rintro en w1 ⟨rfl,hd1,hm1⟩;have hr1:=hwd.turn hd1 hm1;have z1:=hr1.act.cell 1 _ rfl;have z2:=hr1.act.cell 2 _ rfl)
    | (go_at_call 36;refine (hR _ hd1).mono ?_;rintro en w2 ⟨rfl,hd2,hm2⟩;have hr2:=hr1.turn hd2 hm2)
    | go_in))
  exact ⟨rfl,_,_,_,0,0,0,⟨rfl,rfl,rfl,rfl,rfl,rfl,rfl,rfl,rfl,rfl,rfl,rfl,rfl,rfl,rfl⟩,hr2,hI.up⟩
section
variable {n0:Nat} {Z:Nat→Prop} {d:Tryz.gB} {r:Tryz.Rg} {w w':World} {s1:Tryz.PS} {g1:Nat→Int} {s2:Tryz.PS} {g2:Nat→Int}
theorem Tryz.Duo.uR (h:Duo n0 Z w d r s1 g1 s2 g2):w.cell? ⟨d.S2,9,none⟩=some (.int .i64 s2.nx)∧w.cell? ⟨d.S2,10,none⟩=some (.bool s2.nw)∧d.S2<w.heap.size:=by
 obtain ⟨lv,_,h2,_⟩:=h.ex;obtain ⟨sv,ct,vs,q1,_⟩:=h2.obj;exact ⟨q1.cell 9 _ rfl,q1.cell 10 _ rfl,q1.lt⟩
theorem Tryz.TK {xs:List Int} {u:Value} {b2 a:Nat} (hd:Duo n0 Z w d r s1 g1 s2 g2) (hu:aA 5 1 w b2 u xs.length (gW xs)) (hx:xs.length=16) (hb: ∀x∈xs,0≤x∧x<256) (ha:a+16≤20000):
  Calls prog 39 #[.pointer (some ⟨d.P,0,none⟩),.int .u64 a,u] w fun e w'=>e= .returned (.int .i64 0)∧Duo n0 Z w' d r s1 (fB g1 a xs) s2 g2∧Dw.Mv (fun b=> ¬Z b) w w':=by
 obtain ⟨sa,c,rfl,hr⟩:=aA.row hu;rcases hr with hr|⟨G,rfl,ho,hG⟩
 ·have:=yaI List.length hr;simp [gW] at this;rw [this] at hx;cases hx
 ·exact Vw hd fun hg=>zrl d.P d.L d.Bs d.B 20000 a G 0 c xs g1 w hg (by decide) (by omega) (by omega) hb hG (aA.lt hu G ho).2
theorem Tryz.TL {xs:List Int} {u:Value} {b2 a:Nat} (hd:Duo n0 Z w d r s1 g1 s2 g2) (hu:aA 5 1 w b2 u xs.length (gW xs)) (hx:xs.length=16) (hb: ∀x∈xs,0≤x∧x<256) (ha:a+16≤20000):
  Calls prog 41 #[.pointer (some ⟨d.P2,0,none⟩),.int .u64 a,u] w fun e w'=>e= .returned (.int .i64 0)∧Duo n0 Z w' d r s1 g1 s2 (fB g2 a xs)∧Dw.Mv (fun b=> ¬Z b) w w':=by
 obtain ⟨sa,c,rfl,hr⟩:=aA.row hu;rcases hr with hr|⟨G,rfl,ho,hG⟩
 ·have:=yaI List.length hr;simp [gW] at this;rw [this] at hx;cases hx
 ·exact Vv hd fun hg=>Z8 d.P2 d.L2 d.jh d.B2 20000 a G 0 c xs g2 w hg (by decide) (by omega) (by omega) hb hG (aA.lt hu G ho).2
theorem Tryz.Vr {xs:List Int} {u:Value} {b2:Nat} (hu:aA 5 1 w b2 u xs.length (gW xs)) (hx:xs.length=16):
  Calls prog 40 #[u] w fun e w'=> ∃u2,e= .returned u2∧aA 5 1 w' w.heap.size u2 xs.length (gW xs)∧Below w.heap.size w w':=by
 obtain ⟨sa,c,rfl,hr⟩:=aA.row hu;rcases hr with hr|⟨G,rfl,ho,hG⟩
 ·have:=yaI List.length hr;simp [gW] at this;rw [this] at hx;cases hx
 ·exact zAg hG (by omega) (by omega)
theorem Tryz.Rw.FQ {W0:World} {n:Nat} {aL:Nat} {c:Pc} {s1':PS} {g1':Nat→Int} {s2':PS} {g2':Nat→Int} {p1 p2:List Value} {Z:Nat→Prop} (h:Rw W0 n d r aL c w s1 g1 s2 g2 p1 p2) (hz: ∀b,jX W0.heap.size d aL b→Z b) (hd:Duo W0.heap.size Z w' d r s1' g1' s2' g2') (hm:Dw.Mv (fun b=> ¬Z b) w w'):Rw W0 n d r aL c w' s1' g1' s2' g2' p1 p2:=
 h.turn (hd.set hz) (hm.mono fun b q q2=>q (hz b q2))
theorem Tryz.aA.keep {t:TypeId} {sz n:Nat} {b2:Nat} {v:Value} {cs:List Value} (h:aA t sz w b2 v n cs) (hb:Below w.heap.size w w'):aA t sz w' b2 v n cs:=aA.kept h fun b e=>hb.block b (aA.lt h b e).2
end
end Go.Proofs
namespace Go.Proofs
open Go.Dw Go.RowKit Go.Maps Go.Sort Go.Deep
set_option maxRecDepth 100000 in
theorem Tryz.zAD {W0 w:World} {n:Nat} {d:gB} {r:Rg} {av:Value} {j aL:Nat} {E:Int} {c:Pc} {s:PS} {g:Nat→Int} {tm:Array Value} (hf:Rf n d av j E aL tm) (jI:tm.getD 99 undef= .int .i64 5) (hw:Rw W0 n d r aL c w s g s g (jc 0 0 0) (jc 0 0 0)) (hI:SI s j) (hj:j<60) (hco:c.ok w) (gN:jG r):
    (bJ prog [1,0,1,1,0,0,1,0,0,1,0,1,1,1,1,1,1,1,1,1,1,5]).wp prog (wH W0 n d r av j aL c) ⟨tm,[]⟩ w:=by
  have hal:=hf.sz;obtain ⟨jf,eH⟩:=yw (t:=tm) hf.sz hf.t0 hf.t2 hf.t7 hf.t8 hf.t10 hf.t12 hf.t14 hf.t15 hf.t16 hf.t17 hf.t18 hf.t19 hf.t20 hf.t21 jI;rw [eH];clear eH hal hf jI;have hwx:=hw;obtain ⟨hg,hct,hpb⟩:=hw.duo.facts;have hnx:=hpb.nx;have hn16:=gN.bnd;have e1:IntKind.wrap .u64 s.nx=s.nx:=wrap_u64 _ (by omega) (by omega);have e2:IntKind.wrap .u64 (16*s.nx)=16*s.nx:=wrap_u64 _ (by omega) (by omega);obtain ⟨a,ha,ha2⟩: ∃a:Nat,(a:Int)=4096+16*s.nx∧a+16≤20000:=⟨(4096+16*s.nx).toNat,by omega,by omega⟩;have e3:IntKind.wrap .u64 (4096+16*s.nx)=(a:Int):=by rw [wrap_u64 _ (by omega) (by omega)];omega
  clear ha;have c3:=hw.act.cell 3 _ rfl;have c4:=hw.act.cell 4 _ rfl;have c5:=hw.act.cell 5 _ rfl;have c6:=hw.act.cell 6 _ rfl;obtain ⟨ob,iK⟩: ∃ob,ob=Obj.cells #[.int .u64 c.a,.int .u32 c.l,.int .u16 c.f,.int .u16 c.x] 60:=⟨_,rfl⟩;have mh:=(yah w.heap.size w).alloc (yab _) (Obj.cells #[.int .u64 c.a,.int .u32 c.l,.int .u16 c.f,.int .u16 c.x] 60);have K7:=hw.below mh;have kA:=Cl.new w #[.int .u64 c.a,.int .u32 c.l,.int .u16 c.f,.int .u16 c.x] 60;have d7:=K7.act.cell 7 _ rfl;obtain ⟨_,dnw,_⟩:=K7.duo.uR;have dA3:=kA.cell 3 _ rfl;have hf3:=kA.free 3;refine jy (c':=(au 1 (au 0 (au 1 (au 1 (au 0 (au 0 (au 1 (au 0 (au 0 (au 1 (au 0 (au 1 (au 1 (au 1 (au 1 (au 1 (au 1 (au 1 (au 1 (au 1 (au 1 (match (f5).body with|some c=>c|none=> .skip))))))))))))))))))))))) (by kernel_rfl) ?_
  dsimp only [f5,au]
  go_wp2_with fail;go_cut [] from 158 to 169 (fun wx=> ∃f',(0≤f'∧f'<65536)∧Cl wx w.heap.size [.int .u64 c.a,.int .u32 c.l,.int .u16 c.f,.int .u16 f']∧Below w.heap.size w wx)
  case first=>
    go_region_law (first
      | (go_simp;go_at_call 37;refine (zt6 _).mono ?_;rintro en w5 ⟨f',rfl,hf',Lj⟩;have Lj:=Lj.symm;subst Lj;have f33:=hf3))
    all_goals
      go_wp2_with fail;go_meet;exact ⟨f',hf',(Cl.new w #[.int .u64 c.a,.int .u32 c.l,.int .u16 c.f,.int .u16 f'] 60).kept rfl,((yah w.heap.size w).alloc (yab _) _).drew⟩
  case rest=>
    obtain ⟨f',hf',k23,hbw⟩:=hcut;clear mh K7 kA d7 dnw dA3 hf3;have hrc:=hw.below hbw;have q0:=k23.cell 0 _ rfl;have q1:=k23.cell 1 _ rfl;have q2:=k23.cell 2 _ rfl;have q3:=k23.cell 3 _ rfl;go_wp2_with (first
      | (go_at_call 38;refine (Nf ⟨0,c.a,c.l,c.f,f'⟩ ⟨hco.a,hco.l,hco.f,hf'⟩ _).mono ?_;rintro e w6 ⟨u,rfl,hu,hb6⟩;have hx16:=Pt.EH ⟨0,c.a,c.l,c.f,f'⟩;have hbb:=Pt.Qe ⟨0,c.a,c.l,c.f,f'⟩;obtain ⟨xs,hxs⟩: ∃xs,xs=Pt.bytes ⟨0,c.a,c.l,c.f,f'⟩:=⟨_,rfl⟩;rw [←hxs] at hu hx16 hbb;clear hxs;have zD:=hrc.below hb6;have hD6:=hrc.duo.more hb6 (Z':=fun b=>jX W0.heap.size d aL b∨u.ownBlock=some b) (fun b q=>q.imp id (fun e=>aA.lt hu b e));have x7:=zD.x7.cell 2 _ rfl;have x9:=zD.duo.uR.1;have K5:=zD.below ((yah _ w6).drew);have Ke:=hD6.below ((yah _ w6).drew);have xI:=aA.keep hu ((yah _ w6).drew))
      | go_in)
    go_region_held3 (fun w'=>w'.cell? ⟨d.X7,2,none⟩=some (.int .u64 4096)∧w'.cell? ⟨d.S2,9,none⟩=some (.int .i64 s.nx)) (go_keep)
      ((first
        | (go_at_call 40;refine (Vr xI hx16).mono ?_;rintro en w7 ⟨u2,rfl,hu2,fu⟩;have hD7:=Ke.below fu;have BU:=K5.below fu;have x77:=BU.x7.cell 2 _ rfl;have x97:=hD7.uR.1)
        | (go_at_call 39;refine (TK hD7 hu2 hx16 hbb ha2).mono ?_;rintro en w8 ⟨rfl,zh,lK⟩;have BV:=BU.FQ (fun b q=> .inl q) zh lK;have x78:=BV.x7.cell 2 _ rfl;have x98:=zh.uR.1;have xJ:=aA.kept (aA.keep xI fu) fun b e=>lK.block b (aA.lt (aA.keep xI fu) b e).2 (fun q=>q (.inr e)))))
    all_goals (go_wp2_with fail)
    have K6:=BV.below ((yah _ w8).drew);have Kg:=zh.below ((yah _ w8).drew);have Lf:=aA.keep xJ ((yah _ w8).drew);go_region_held3 (fun w'=>w'.cell? ⟨d.X7,2,none⟩=some (.int .u64 4096)∧w'.cell? ⟨d.S2,9,none⟩=some (.int .i64 s.nx)) (go_keep)
      ((first
        | (go_at_call 41;refine (TL Kg Lf hx16 hbb ha2).mono ?_;rintro en w9 ⟨rfl,Bu,mM⟩;have BX:=K6.FQ (fun b q=> .inl q) Bu mM;have x79:=BX.x7.cell 2 _ rfl;have x99:=Bu.uR.1)))
    all_goals (go_wp2_with fail)
    exact ⟨rfl,_,_,_,0,0,0,⟨rfl,rfl,rfl,rfl,rfl,rfl,rfl,rfl,rfl,rfl,rfl,rfl,rfl,rfl,rfl⟩,BX,hI.up⟩
end Go.Proofs
end
