/-
  Proved: laws on the way to 'PserveScriptProof' (texts WkG DwTurn WkH0 WkH WkI0 WkI WkJ ClA WkK WkL WkM WkN WkO QaE XaA WkP WkQ WkR WkS0 WkS1 WkS WkT DwOrc Orc WkU XaB DwArgs DwVal SvJ SvK XaC QaF QaG QaH XaD XaE XcR XcM XaF0 XaF XaG XaH XaI XaJ XaK XaL XaM0 XaM XaN XaO XaP XaR XaS0 XaS XaT XaU XaV XaW XaX XaY XaZ XbA XcJ XcK XcL XcN XcO XcS XcT XcA XcB XcC XcD XcE XcU XcV XbB XcF XbC XbD XbH XcG XcW XcH XcX XcY XcZ XdA XdB0 XdB XdC XdD XbI XbK XbM XbN XbF XbG XbE XbO XbP XbQ XbR XcP XdE XdF XdG0 XdG XdH XdI XdJ QaI QbE PsA PsB0 QbA PsB PsC QbB QbC QbD PsD0); no condition.
-/
import Derived.Test.YtfoggkodmjnmcaaGreatM2
import Derived.Shelf.SlIterI.Nil
import Derived.Shelf.SlIterI.Sorted
import Derived.Lib.SlKeysI
import Derived.Test.YtfoggkodmjnmcaaGreatProg
import Derived.Shelf.SortM.Plain
import Derived.Shelf.SortM.SortNone
import Derived.KernelRfl
import Derived.Carry
import Derived.OpenShut
import Derived.ProofKit
import Derived.Lib.LaidU8
import Derived.Deep.RegionHeld3
import Derived.Deep.DrawnRows
set_option linter.unusedSimpArgs false
set_option linter.unusedVariables false
set_option maxHeartbeats 4000000
noncomputable section
namespace Go.Proofs
open Go.Dw Go.RowKit Go.Maps Go.Sort Go.Deep
def Tryz.uO (F:Nat→Prop) (w:World) (sa:Option Addr) (l:List Sg):Prop:=l= []∨ ∃R o,sa=some ⟨R,o,none⟩∧F R∧w.rangeAt R o (dV l)
theorem Tryz.uO.kept {F:Nat→Prop} {w w':World} {sa:Option Addr} {l:List Sg} (h:uO F w sa l) (hb: ∀b,F b→w'.heap[b]? =w.heap[b]?):uO F w' sa l:=by
 rcases h with h|⟨R,o,e,hF,hr⟩
 ·exact .inl h
 ·exact .inr ⟨R,o,e,hF,iR hr (hb R hF)⟩
theorem Tryz.uO.v {F:Nat→Prop} {w:World} {sa:Option Addr} {l:List Sg} (h:uO F w sa l) (hok: ∀x∈l,x.ok) (c:Nat):aX (fun _=>False) w (.slice sa l.length c) l:=by
 rcases h with h|⟨R,o,e,hF,hr⟩
 ·exact ⟨sa,c,rfl,hok,.inl h⟩
 ·exact ⟨sa,c,rfl,hok,.inr ⟨R,o,e,fun h=>h,hr⟩⟩
def Tryz.FM (sa:Option Addr) (l:List Sg):bg where
 fact k _ F w:=uO F w sa l
 loc:=fun k _ _ F w w' h _ hb hs=>h.kept hb
theorem Tryz.Ec (k:Nat) (h:k<4611686018427387904):IntKind.wrap .i64 ((k:Int)+1)=((k+1:Nat):Int):=by rw [gy (by omega) (by omega)];omega
def Tryz.dU (wr:Bool):List Sg→Int
 | [] => 0
 | x::r=>if x.wr=wr then x.len+dU wr r else dU wr r
def Tryz.iO (l:List Sg):Int×Int:=if gH l=0 then (dU false l,dU true l) else (0,0)
theorem Tryz.xY (b:Bool): ∀(l:List Sg),(∀x∈l,x.ok)→0≤dU b l∧dU b l≤l.length*4294967296
 | [], _=>by simp [dU]
 | x::r,h=>by
  obtain ⟨h1,h2⟩:=xY b r fun y hy=>h y (yam _ hy);obtain ⟨_,_,h3,h4⟩:=h x (yav ..);unfold dU;have e:(((x::r).length:Nat):Int)=r.length+1:=by simp
  rw [e];split<;>omega
theorem Tryz.Gj (b:Bool) (l:List Sg) (k:Nat) (h:k<l.length):dU b (l.take (k+1))=dU b (l.take k)+(if l[k].wr=b then l[k].len else 0):=by
 induction l generalizing k with
 | nil=>simp at h
 | cons x r ih=>
  cases k with
  | zero=>simp only [ycM,List.take_zero,dU,yc6];split<;>simp
  | succ k=>
   have:=ih k (by simpa using h);simp only [ycM,dU,ybB];rw [this];split<;>omega
theorem Tryz.GZ {l:List Sg} (h:gH l=0):l.length≤64:=by
 unfold gH at h;split at h
 ·omega
 ·omega
theorem Tryz.ztV {A:Nat→Prop} {w:World} {sa:Option Addr} {c:Nat} {l:List Sg} (h:aX A w (.slice sa l.length c) l):(FM sa l).G 0 (aT []) w:=by
 obtain ⟨sa',c',e,hok,hr⟩:=h;injection e with e1 _ e3;subst e1;refine ⟨fun b=>b<w.heap.size,fun b hb=>⟨hb,fun hm=> ?_⟩,?_⟩
 ·obtain ⟨k,L,h1,_⟩:=hm;cases k<;>cases h1
 ·by_cases h0:l= []
  ·exact .inl h0
  ·rcases hr with h|⟨R,o,e,_,hr⟩
   ·exact .inl h
   ·exact .inr ⟨R,o,e,rZ hr h0,hr⟩
theorem Tryz.Vb {ρ:Val} {j:J} {sa:Option Addr} {c:Nat} {l:List Sg} (hv:ρ.v 1= .slice sa l.length c) (d0:(ah 0).den ρ=l.length):Dw.R ρ j (sl1 []) (.slice sa l.length c):=⟨hv.symm,sa,_,c,rfl,d0.symm,trivial⟩
structure Tryz.JG (a b:Int):Prop where
 eq:a=b
set_option maxRecDepth 100000 in
theorem Tryz.zmV {A:Nat→Prop} {w:World} {v:Value} {l:List Sg} (h:aX A w v l) (hln:l.length<4611686018427387904):
    Calls prog 58 #[v] w fun e w'=>e= .returned (.tuple #[.int .u64 (iO l).1,.int .u64 (iO l).2])∧Below w.heap.size w w':=by
  have hck:=M4 h;obtain ⟨sa,c,rfl,hok,hr⟩:=h;unfold iO;by_cases he:gH l=0
  · rw [yaj he];rw [he] at hck;have hl:=GZ he;have hS1:(fun _:Unit=>dU false l)=fun _=>dU false (l.take l.length):=by rw [yb2]
    have hS2:(fun _:Unit=>dU true l)=fun _=>dU true (l.take l.length):=by rw [yb2]
    go_enter func58,ntmps58;go_wp2_with (first
      | (go_at_call 84;refine hck.mono ?_;rintro en w3 ⟨rfl,hb3⟩)
      | go_in)
    go_loopw [2,3,5,11] (fun x y z i wr=>Below w.heap.size w wr∧ ∃k:Nat,k≤l.length∧i= .int .i64 k∧x= .int .u64 (dU false (l.take k))∧y= .int .u64 (dU true (l.take k))) (fun _ _ _ i _=>l.length-(RowKit.intOf i).toNat)
    case atStart=>exact ⟨hb3,0,yaE _,rfl,rfl,rfl⟩
    case round=>
      obtain ⟨hb2,k,hk,rfl,rfl,rfl⟩:=hrel;by_cases hkl:k<l.length
      · have hkl':(k:Int)<l.length:=by omega
        rcases hr with hr|⟨R,o,rfl,EX,hr⟩
        · subst hr;simp at hkl
        obtain ⟨d0,d1,d2⟩:=CX l k hkl;have g0:=hr _ _ d0;have g1:=hr _ _ d1;have g2:=hr _ _ d2;have hRl:R<w.heap.size:=World.block_lt_of_cell? w _ g1;replace g0:=(hb2.cell (p:=⟨R,o+3*k,none⟩) hRl).trans g0;replace g1:=(hb2.cell (p:=⟨R,o+(3*k+1),none⟩) hRl).trans g1;replace g2:=(hb2.cell (p:=⟨R,o+(3*k+2),none⟩) hRl).trans g2;rw [ybE 3 k] at g0;rw [show o+(3*k+1)=o+k*3+1 by omega] at g1;rw [show o+(3*k+2)=o+k*3+2 by omega] at g2;obtain ⟨q1,q2,q3,q4⟩:=hok l[k] (yaS hkl);have hs1:=Gj false l k hkl;have hs2:=Gj true l k hkl;have b1:=xY false (l.take (k+1)) (fun y hy=>hok y (ybL hy));have b2:=xY true (l.take (k+1)) (fun y hy=>hok y (ybL hy));have hlt:(l.take (k+1)).length≤64:=by simp;omega
        have u0:IntKind.wrap .u64 l[k].len=l[k].len:=cZ q3 (by omega);have hA:=fun o:Obj=>hb2.alloc hb2.size o;clear hr d0 d1 d2 hS1 hS2 hck;cases hw:l[k].wr
        all_goals
          rw [hw] at g2 hs1 hs2;simp only [ycy,ybV,yds,reduceCtorEq] at hs1 hs2;rw [hs1] at b1;rw [hs2] at b2;have o9:(JG (dU false (l.take (k+1))) _):=⟨hs1⟩;have ve:(JG (dU true (l.take (k+1))) _):=⟨hs2⟩;clear hs1 hs2
        · have u1:IntKind.wrap .u64 (dU false (l.take k)+l[k].len)=dU false (l.take k)+l[k].len:=cZ (by omega) (by omega);go_wp2_with fail;exact ⟨⟨hA _,k+1,by omega,by push_cast;rfl,by rw [o9.eq],by rw [ve.eq]⟩,by simp only [RowKit.intOf];omega⟩
        · have u1:IntKind.wrap .u64 (dU true (l.take k)+l[k].len)=dU true (l.take k)+l[k].len:=cZ (by omega) (by omega);go_wp2_with fail;exact ⟨⟨hA _,k+1,by omega,by push_cast;rfl,by rw [o9.eq],by rw [ve.eq]⟩,by simp only [RowKit.intOf];omega⟩
      · have hkl': ¬(k:Int)<l.length:=by omega
        go_wp2;go_ret2;have:k=l.length:=by omega
        subst this;exact ⟨by rw [ybu hS1 (),ybu hS2 ()];rfl,hb2⟩
  · rw [yai he];have he2:(gH l==0)=false:=by simpa using he
    go_enter func58,ntmps58;go_wp2_with (first
      | (go_at_call 84;refine hck.mono ?_;rintro en w3 ⟨rfl,hb3⟩)
      | go_in)
    all_goals
      go_ret2;exact ⟨rfl,hb3⟩
def Tryz.yA (N:Nat):List Sg→Bool
 | [] => true
 | x::r=>decide (1≤x.len∧x.aP+x.len≤N)&&yA N r
def Tryz.nR (N:Nat) (l:List Sg):Int:=if gH l=0 then (if yA N l=true then 0 else 5) else gH l
theorem Tryz.zCK {ρ:Val} {w0:World} {K:Nat→Prop} {gh:bg} {P L Bs B N:Nat} {g:Nat→Int} (hp:ρ.v 0= .pointer (some ⟨P,0,none⟩)) (hf: ∀w F q,gh.fact 0 q F w→GM w P L Bs B N g):jM prog ρ w0 K gh Te:=
 iQ (Dw.enters_of (by kernel_rfl)) (by decide) [.pointer (some ⟨P,0,none⟩),.int .u64 0,.int .i64 0] (.tuple #[.slice none 0 0,.int .i64 0]) (fun j=>af (gY hp rfl) (af (ai rfl) (af (ai rfl) RL.nil))) (fun j=>kM (af rfl (af (ai rfl) RL.nil))) fun w F q h=>
  yaq (Hg P L Bs B N 0 g w (hf w F q h)) fun e w' hh=>⟨hh.1,hh.2▸yah _ _⟩
theorem Tryz.Df {N:Nat}: ∀ {l:List Sg},yA N l=true↔ ∀x∈l,1≤x.len∧x.aP+x.len≤N
 | [] => by simp [yA]
 | y::r=>by
  unfold yA;rw [ybe,decide_eq_true_iff,Df (l:=r)];constructor
  ·rintro ⟨h1,h2⟩ x hx;rcases yad.1 hx with rfl|hx
   ·exact h1
   ·exact h2 x hx
  ·intro h;exact ⟨h y (by simp),fun x hx=>h x (by simp [hx])⟩
set_option maxRecDepth 100000 in
theorem Tryz.zvL {A:Nat→Prop} {w:World} {P L Bs B N:Nat} {g:Nat→Int} {sa:Option Addr} {c:Nat} {l:List Sg} (hm:GM w P L Bs B N g) (hN:N≤1048576) (h1:1≤N) (h:aX A w (.slice sa l.length c) l) (hln:l.length<4611686018427387904)
    (Km: ∀R o,sa=some ⟨R,o,none⟩→R≠P∧R≠L∧R≠Bs∧R≠B):
    Calls prog 172 #[.pointer (some ⟨P,0,none⟩),.slice sa l.length c] w fun e w'=>e= .returned (.int .i64 (nR N l))∧Below w.heap.size w w':=by
  clear Km;have hck:=M4 h;have hrd:=Hg P L Bs B N 0 g w hm;obtain ⟨sa',c',e',hok,hr⟩:=h;cases e';unfold nR;by_cases he:gH l=0
  · rw [yaj he];rw [he] at hck;have hl:=GZ he;obtain ⟨z,hz⟩: ∃z,JG z (if yA N l=true then 0 else 5):=⟨_,⟨rfl⟩⟩;rw [←hz.eq];go_enter func172,ntmps172;go_wp2_with (first
      | (go_at_call 17;refine hrd.mono ?_;rintro en w2 ⟨rfl,hw2⟩;have hw2:=hw2.symm;subst hw2)
      | (go_at_call 84;refine hck.mono ?_;rintro en w3 ⟨rfl,hb3⟩)
      | go_in)
    go_loopw [9,25] (fun z i wr=>Below w.heap.size w wr∧ ∃k:Nat,k≤l.length∧i= .int .i64 k∧ ∀(j:Nat) (hj:j<l.length),j<k→1≤l[j].len∧l[j].aP+l[j].len≤N) (fun _ i _=>l.length-(RowKit.intOf i).toNat)
    case atStart=>exact ⟨hb3,0,yaE _,rfl,fun j _ hj=>absurd hj (by omega)⟩
    case round=>
      obtain ⟨hb2,k,hk,rfl,hall⟩:=hrel;by_cases hkl:k<l.length
      · have hkl':(k:Int)<l.length:=by omega
        rcases hr with hr|⟨R,o,rfl,EX,hr⟩
        · subst hr;simp at hkl
        obtain ⟨d0,d1,d2⟩:=CX l k hkl;have g0:=hr _ _ d0;have g1:=hr _ _ d1;have g2:=hr _ _ d2;have hRl:R<w.heap.size:=World.block_lt_of_cell? w _ g1;replace g0:=(hb2.cell (p:=⟨R,o+3*k,none⟩) hRl).trans g0;replace g1:=(hb2.cell (p:=⟨R,o+(3*k+1),none⟩) hRl).trans g1;replace g2:=(hb2.cell (p:=⟨R,o+(3*k+2),none⟩) hRl).trans g2;rw [ybE 3 k] at g0;rw [show o+(3*k+1)=o+k*3+1 by omega] at g1;rw [show o+(3*k+2)=o+k*3+2 by omega] at g2;obtain ⟨q1,q2,q3,q4⟩:=hok l[k] (yaS hkl);have u0:IntKind.wrap .u64 l[k].len=l[k].len:=cZ q3 (by omega);have hhas:=fun w4 (h4:Below w.heap.size w w4)=>zx7 P L Bs B N l[k].aP l[k].len g w4 (hm.below h4) hN h1 q1 q2 q3;have hin2:yA N l=true→1≤l[k].len∧l[k].aP+l[k].len≤N:=fun h=>Df.1 h l[k] (yaS hkl);clear hr d0 d1 d2 hck hrd;generalize hat:l[k].aP=a1 at*;generalize hln:l[k].len=n1 at*;have hA:=fun o:Obj=>hb2.alloc hb2.size o;by_cases hin:1≤n1∧a1+n1≤N
        · rw [yaG hin] at hhas;go_wp2_with (first
            | (go_at_call 179;refine (hhas _ (hA _)).mono ?_;rintro en w5 ⟨rfl,hb5⟩)
            | go_in)
          refine ⟨⟨(hA _).trans (hb5.mono (hA _).size),k+1,by omega,by push_cast;rfl,fun j hj hlt=> ?_⟩,by simp only [RowKit.intOf];omega⟩;by_cases hjk:j=k
          · subst hjk;rw [hat,hln];exact hin
          · exact hall j hj (by omega)
        · rw [yar hin] at hhas;go_wp2_with (first
            | (go_at_call 179;refine (hhas _ (hA _)).mono ?_;rintro en w5 ⟨rfl,hb5⟩)
            | go_in)
          go_ret;exact ⟨by rw [hz.eq,yai fun h=>hin (hin2 h)];rfl,(hA _).trans (hb5.mono (hA _).size)⟩
      · have hkl': ¬(k:Int)<l.length:=by omega
        go_wp2;go_ret;exact ⟨by
          rw [hz.eq,yaj (Df.2 fun x hx=>by
            obtain ⟨j,hj,rfl⟩:=List.getElem_of_mem hx;exact hall j hj (by omega))]
          rfl,hb2⟩
  · rw [yai he];have he2:(gH l==0)=false:=by simpa using he
    go_enter func172,ntmps172;go_wp2_with (first
      | (go_at_call 17;refine hrd.mono ?_;rintro en w2 ⟨rfl,hw2⟩;have hw2:=hw2.symm;subst hw2)
      | (go_at_call 84;refine hck.mono ?_;rintro en w3 ⟨rfl,hb3⟩)
      | go_in)
    all_goals
      go_ret;exact ⟨rfl,hb3⟩
end Go.Proofs
namespace Go.Dw
open Go.RowKit
structure nU where
 e:aG
 rows:List (Nat×List AV×List AV)
def isVar (H:Heap) (n:Nat) (row row':List AV):Bool:=
 match H.m.get n with
 | some (.cells v 0 g none false true)=>(match Nat.beq g n,Nat.beq v.n row.length,Nat.beq row'.length row.length with
  | true,true,true=>AV.o6 (v.list 0 v.n) row
  | _,_,_=>false)
 | _=>false
def IY (H:Heap):List (Nat×List AV×List AV)→Bool
 | [] => true
 | r::l=>match isVar H r.1 r.2.1 r.2.2 with|true=>IY H l|false=>false
def uz (H:Heap):List (Nat×List AV×List AV)→Heap
 | [] => H
 | r::l=>uz (H.upd r.1 (.cells (Vec.ofList r.2.2) 0 r.1 none false true)) l
def ug:List (Nat×List AV×List AV)→List Nat
 | [] => []
 | r::l=>r.1::ug l
def Ie:List (Nat×List AV×List AV)→List (Nat×List AV)
 | [] => []
 | r::l=>(r.1,r.2.1)::Ie l
def FO:List Nat→List Nat→Bool
 | [], _=>true
 | a::l,m=>match m.any (Nat.beq a) with|true=>FO l m|false=>false
def nU.fits (e:nU) (f:FuncId) (args:List AV) (H:Heap):Bool:=
 match e.e.fits f args H,IY H e.rows,oH H (Ie e.rows),FO (ug e.rows) (AV.mQ args) with
 | true,true,true,true=>AQ (ug e.rows)
 | _,_,_,_=>false
theorem Wv: ∀ {l:List (Nat×List AV×List AV)} {r},r∈l→(r.1,r.2.1)∈Ie l
 | [], r,h=>by cases h
 | x::l,r,h=>by
  unfold Ie;rcases yad.1 h with rfl|h
  ·exact yav ..
  ·exact yam _ (Wv h)
theorem Ot: ∀ {l m:List Nat},FO l m=true→ ∀a∈l,a∈m
 | [], _,_,a,h=>by cases h
 | x::l,m,hs,a,h=>by
  unfold FO at hs;split at hs
  case h_2=>cases hs
  rename_i h1;rcases yad.1 h with rfl|h
  ·obtain ⟨y,h2,h3⟩:=ydu.1 h1;rw [bC h3];exact h2
  ·exact Ot hs a h
def DI:List nU→FuncId→List AV→Heap→Option (List (AV×Heap))
 | [], _,_,_=>none
 | e::l,f,args,H=>match e.fits f args H with
  | true=>some [(e.e.res,uz (e.e.heap H) e.rows)]
  | false=>DI l f args H
def Ea (l:List aG) (m:List nU):FuncId→List AV→Heap→Option (List (AV×Heap)):=fun f args H=>
 match bB l f args H with
 | some r=>some r
 | none=>DI m f args H
def sD (j:J) (rows:List (Nat×List AV×List AV)) (b:Nat):Prop:= ∃r∈rows,∃L,j r.1=some L∧b=L.blk
def Vo (P:Program) (ρ:Val) (w0:World) (K:Nat→Prop) (g:bg) (e:nU):Prop:=
 Enters P e.e.f∧ ∀(j:J) (w:World) (vals:List Value) (F:Nat→Prop) (n:Nat),RL ρ j e.e.args vals→(∀k,n≤k→j k=none)→(e.e.gQ≠0→n=e.e.base)→(∀b,F b→b<w.heap.size)→w0.heap.size≤w.heap.size→
  (∀ r∈e.rows,∃L vs,j r.1=some L∧L.off=0∧(w0.heap.size≤L.blk∨K L.blk)∧ ¬F L.blk∧RL ρ j r.2.1 vs∧Own w L.blk vs)→
  (∀ r∈e.rows,∀r'∈e.rows,r.1≠r'.1→ ∀L L',j r.1=some L→j r'.1=some L'→L.blk≠L'.blk)→g.fact e.e.gs (iE j) F w→
   Calls P e.e.f vals.toArray w fun en w'=> ∃u qs F',en= .returned u∧qs.length=e.e.gQ∧R ρ (jq j n qs) e.e.res u∧g.fact e.e.gs' (iE (jq j n qs)) F' w'∧(∀b,F' b→b<w'.heap.size∧(F b∨w.heap.size≤b))∧
    (∀ r∈e.rows,∀L,j r.1=some L→ ∃vs,RL ρ (jq j n qs) r.2.2 vs∧Own w' L.blk vs)∧Mv (fun b=>(F b∧(w0.heap.size≤b∨K b))∨sD j e.rows b) w w'
def Px (P:Program) (ρ:Val) (w0:World) (K:Nat→Prop) (g:bg):List nU→Prop
 | [] => True
 | e::l=>Vo P ρ w0 K g e∧Px P ρ w0 K g l
def Hz:List (Nat×List AV×List AV)→Bool
 | [] => true
 | r::l=>match AV.bK r.2.1,AV.bK r.2.2 with|true,true=>Hz l|_,_=>false
def Dc:List nU→Bool
 | [] => true
 | e::l=>match AV.bK e.e.args,e.e.res.small,Hz e.rows with|true,true,true=>Dc l|_,_,_=>false
theorem MW: ∀ {l:List (Nat×List AV×List AV)},Hz l=true→ ∀r∈l,AV.bK r.2.1=true∧AV.bK r.2.2=true
 | [], _,r,h=>by cases h
 | x::l,hl,r,h=>by
  unfold Hz at hl;split at hl
  ·rename_i h1 h2;rcases yad.1 h with rfl|h
   ·exact ⟨h1,h2⟩
   ·exact MW hl r h
  ·cases hl
theorem zAt {H:Heap} {n:Nat} {row row':List AV} (h:isVar H n row row'=true): ∃v,H.m.get n=some (.cells v 0 n none false true)∧v.n=row.length∧row'.length=row.length∧v.list 0 v.n=row:=by
 unfold isVar at h;split at h
 case h_2=>cases h
 rename_i v g hm;split at h
 case h_2=>cases h
 rename_i h1 h2 h3;have h1:=bC h1;subst h1;exact ⟨v,hm,bC h2,bC h3,AV.qW h⟩
theorem X0 {H:Heap}: ∀ {l:List (Nat×List AV×List AV)},IY H l=true→ ∀r∈l,isVar H r.1 r.2.1 r.2.2=true
 | [], _,r,h=>by cases h
 | x::l,hl,r,h=>by
  unfold IY at hl;split at hl
  ·rename_i h1;rcases yad.1 h with rfl|h
   ·exact h1
   ·exact X0 hl r h
  ·cases hl
theorem zqJ {n:Nat} {l:List Nat} (h:AQ (n::l)=true):n∉l∧AQ l=true:=by
 unfold AQ at h;split at h
 ·cases h
 ·rename_i hh;refine ⟨fun hm=> ?_,h⟩;have:l.any (Nat.beq n)=true:=ydu.2 ⟨n,hm,by simp⟩;rw [this] at hh;cases hh
theorem M0: ∀ {l:List (Nat×List AV×List AV)} {r},r∈l→r.1∈ug l
 | [], r,h=>by cases h
 | x::l,r,h=>by
  unfold ug;rcases yad.1 h with rfl|h
  ·exact yav ..
  ·exact yam _ (M0 h)
theorem Inv.turns {ρ:Val} {x:Cx} {j:J} {w':World}: ∀(rows:List (Nat×List AV×List AV)) {H:Heap} {wm:World},Inv ρ x j H wm→AQ (ug rows)=true→
  (∀ r∈rows,∃v L vs,H.m.get r.1=some (.cells v 0 r.1 none false true)∧v.n=r.2.2.length∧j r.1=some L∧L.off=0∧RL ρ j r.2.2 vs∧Own w' L.blk vs)→
  (∀ r∈rows,∀r'∈rows,r.1≠r'.1→ ∀L L',j r.1=some L→j r'.1=some L'→L.blk≠L'.blk)→
  (∃ hp:Array Go.Obj,wm= { w' with heap:=hp })→wm.heap.size=w'.heap.size→(∀b,¬sD j rows b→wm.heap[b]? =w'.heap[b]?)→
  Inv ρ x j (uz H rows) w'
 | [], H,wm,hi,_,_,_,⟨hp,hw⟩,hsz,hout=>by
  have:hp=w'.heap:=by
   apply ycv;intro i;have:=hout i (by rintro ⟨r,h,_⟩;cases h);rw [hw] at this;exact this
  subst this;rw [hw] at hi;exact hi
 | r::rows,H,wm,hi,hnd,hr,hne,⟨hp,hw⟩,hsz,hout=>by
  obtain ⟨hn1,hn2⟩:=zqJ hnd;obtain ⟨v,L,vs,h1,h2,h3,h4,h5,arr,e,h6,h7⟩:=hr r (yav ..);have hlt:L.blk<wm.heap.size:=hi.blk _ _ h3 (hi.kZ h3 h1);have hb:=(hi.obj _ _ h3)
  let w1:World:= { w' with heap:=wm.heap.setIfInBounds L.blk (.cells arr e (0,0)) }
  have hset:w1.heap[L.blk]? =some (.cells arr e (0,0)):=by
   show (wm.heap.setIfInBounds L.blk _)[L.blk]? =_;rw [Array.getElem?_setIfInBounds_self_of_lt hlt]
  have hoth: ∀k,k≠L.blk→w1.heap[k]? =wm.heap[k]? :=fun k hk=>by
   show (wm.heap.setIfInBounds L.blk _)[k]? =_;rw [ybS (fun h=>hk h.symm)]
  have hlen:=RL.length h5;have hcell: ∀i a,r.2.2[i]? =some a→ ∃x,arr[L.off+i]? =some x∧R ρ j a x:=fun i a hi'=>by
   obtain ⟨x,q1,q2⟩:=h5.get i a hi';exact ⟨x,by rw [h4,yau];exact h7 i x q1,q2⟩
  have hn:L.off+v.n≤arr.size:=by
   rcases ybm v.n with h0|h0
   ·omega
   ·obtain ⟨x,q1,_⟩:=hcell (v.n-1) _ (yao (by omega));have:=(yap.1 q1).1;omega
  have hi1:=hi.turned h3 h1 h2.symm hset hoth (by show (wm.heap.setIfInBounds L.blk _).size=_;simp) (by rw [hw]) (by rw [hw]) (by rw [hw]) hn hcell;unfold uz;rw [Heap.nL];refine Inv.turns rows hi1 hn2 (fun r' hr'=> ?_) (fun r1 h1' r2 h2'=>hne r1 (yam _ h1') r2 (yam _ h2')) ⟨_,rfl⟩ (by show (wm.heap.setIfInBounds L.blk _).size=_;simp [hsz]) (fun b hb=> ?_)
  ·obtain ⟨v',L',vs',g1,g2⟩:=hr r' (yam _ hr');have hne':r'.1≠r.1:=fun h=>hn1 (h▸M0 hr');exact ⟨v',L',vs',by show (H.m.set r.1 _).get r'.1=_;rw [T.jl _ _ hne'];exact g1,g2⟩
  ·by_cases hbl:b=L.blk
   ·subst hbl;rw [hset,h6]
   ·rw [hoth b hbl];refine hout b ?_;rintro ⟨r',hr',L',g1,g2⟩;rcases yad.1 hr' with rfl|hr'
    ·rw [h3] at g1;cases g1;exact hbl g2
    ·exact hb ⟨r',hr',L',g1,g2⟩
theorem Wj: ∀(rows:List (Nat×List AV×List AV)) (H:Heap),(uz H rows).nx=H.nx∧(uz H rows).gw=H.gw∧ ∀k,k∉ug rows→(uz H rows).m.get k=H.m.get k
 | [], H=>⟨rfl,rfl,fun _ _=>rfl⟩
 | r::rows,H=>by
  unfold uz;rw [Heap.nL];obtain ⟨h1,h2,h3⟩:=Wj rows ⟨H.m.set r.1 (.cells (Vec.ofList r.2.2) 0 r.1 none false true),H.nx,H.gw⟩;refine ⟨h1,h2,fun k hk=> ?_⟩;unfold ug at hk;rw [h3 k (fun h=>hk (yam _ h))];exact T.jl _ _ (fun h=>hk (h▸yav ..))
theorem ztM {P:Program} {ρ:Val} {w0:World} {K:Nat→Prop} {g:bg} (m:Nat→Bool) {l:List nU} (hs:Dc l=true) (h:Px P ρ w0 K g l):nk P (ρ.mark m) (iT w0 K g) (DI l):=by
  intro f args H r hr
  induction l with
  | nil=>cases hr
  | cons e l ih=>
    unfold Dc at hs;split at hs
    case h_2=>cases hs
    rename_i s1 s2 s3;unfold DI at hr;split at hr
    case h_2=>exact ih hs h.2 hr
    rename_i hf;cases hr;unfold nU.fits at hf;split at hf
    case h_2=>cases hf
    rename_i hf1 hf2 hf3 Q5;unfold aG.fits at hf1;split at hf1
    · cases hf1
    rename_i nY;have nY:=bC nY;subst nY;split at hf1
    case h_2=>cases hf1
    rename_i ha hgs;have ha:=AV.qW ha;have hgs:=bC hgs;subst ha;obtain ⟨h1,h2⟩:=h.1;refine ⟨h1,fun k hk j w vals hi hv=> ?_⟩;have hk:Ob.den (ρ.mark m) (k e.e.res (uz (e.e.heap H) e.rows)):=hk;have hG:=hi.eY;rw [hgs] at hG;obtain ⟨F,g1,g2⟩:=hG;have hnone: ∀k,H.nx≤k→j k=none:=fun k hk=>by
      cases hjk:j k with
      | none=>rfl
      | some L=>have:=hi.dom k L hjk;omega
    have hbase:e.e.gQ≠0→H.nx=e.e.base:=fun hn=>by
      split at hf1
      · rename_i h0;exact absurd h0 hn
      · exact bC hf1
    have hpl: ∀r∈e.rows,∃L,j r.1=some L:=fun r hr=>⟨_,vI hv r.1 (Ot Q5 _ (M0 hr))⟩;have hrow: ∀r∈e.rows,∃v L vs arr t,H.m.get r.1=some (.cells v 0 r.1 none false true)∧v.n=r.2.1.length∧r.2.2.length=r.2.1.length∧j r.1=some L∧L.q=none∧L.off=0∧(iT w0 K g).own L.blk∧w.heap[L.blk]? =some (.cells arr t (0,0))∧RL ρ j r.2.1 vs∧ ∀(i:Nat) (y:Value),vs[i]? =some y→arr[i]? =some y:=fun r hr=>by
      obtain ⟨v,q1,q2,q3,_⟩:=zAt (X0 hf2 r hr);obtain ⟨L,hL⟩:=hpl r hr;have hq:=hi.kZ hL q1;have h0:=hi.kW _ _ _ _ _ _ hL q1;obtain ⟨o,k1,k2⟩:=hi.obj _ _ hL;rw [q1] at k1;cases k1;have hown:=k2.2.1;rw [yaj rfl] at hown;obtain ⟨vals,arr,t,fr,p1,p2,p3,_⟩:=hi.FI hL (xU hf3 (Wv hr));have:=hi.fz _ _ hL hq hown _ _ _ p1;subst this;exact ⟨v,L,vals,arr,t,q1,q2,q3,hL,hq,h0,hown,p1,(ji m (MW s3 r hr).1).1 p2,fun i y hy=>by have:=p3 i y hy;rwa [h0,yau] at this⟩
    have hFr: ∀r∈e.rows,∀L,j r.1=some L→ ¬F L.blk:=fun r hr L hL hF=>by
      obtain ⟨v,L',vs,arr,t,q1,q2,q3,q4,q5,_⟩:=hrow r hr;rw [hL] at q4;cases q4;exact (g1 _ hF).2 ⟨r.1,L,hL,q5,rfl⟩
    have hne: ∀r∈e.rows,∀r'∈e.rows,r.1≠r'.1→ ∀L L',j r.1=some L→j r'.1=some L'→L.blk≠L'.blk:=fun r hr r' hr' hne L L' hL hL' hb=>by
      obtain ⟨v,L1,vs,arr,t,q1,q2,q3,q4,q5,_⟩:=hrow r hr;obtain ⟨v',L2,vs',arr',t',q1',q2',q3',Tc,q5',_⟩:=hrow r' hr';rw [hL] at q4;cases q4;rw [hL'] at Tc;cases Tc;obtain ⟨vn,en,gn,cn,sn,on,vm,em,gm,cm,sm,om,k1,k2,k3,k4⟩:=hi.sep r.1 r'.1 L L' hne hL hL' q5 q5' hb;rw [q1] at k1;cases k1;rw [q1'] at k2;cases k2;exact hne (k4 rfl).1
    refine yaq (h2 j w vals F H.nx ((ji m s1).1 hv) hnone hbase (fun b hF=>(g1 b hF).1) hi.fr.size (fun r hr=> ?_) hne g2) fun en w' he=> ?_
    · obtain ⟨v,L,vs,arr,t,q1,q2,q3,q4,q5,q6,q7,q8,q9,LM⟩:=hrow r hr;exact ⟨L,vs,q4,q6,q7,hFr r hr L q4,q9,arr,t,q8,LM⟩
    · obtain ⟨u,qs,F',rfl,e2,e3,e4,e5,e6,e7⟩:=he
      classical
      let hp:Array Go.Obj:=Array.ofFn (n:=w'.heap.size) fun i=>if sD j e.rows i.val then (w.heap[i.val]?).getD w'.heap[i] else w'.heap[i]
      let wm:World:= { w' with heap:=hp }
      have hT: ∀b,sD j e.rows b→b<w.heap.size∧Mine j b∧(iT w0 K g).own b:=fun b hb=>by
        obtain ⟨r,hr,L,hL,rfl⟩:=hb;obtain ⟨v,L',vs,arr,t,q1,q2,q3,q4,q5,q6,q7,q8,_⟩:=hrow r hr;rw [hL] at q4;cases q4;exact ⟨hi.blk _ _ hL q5,⟨r.1,L,hL,q5,rfl⟩,q7⟩
      have KN: ∀b,b<w'.heap.size→wm.heap[b]? =if sD j e.rows b then w.heap[b]? else w'.heap[b]? :=fun b hb=>by
        show hp[b]? =_;rw [yaL (by simp [hp];exact hb)];simp only [hp,Array.getElem_ofFn];by_cases ht:sD j e.rows b
        · rw [yaj ht,yaj ht];rw [yaL (hT b ht).1];rfl
        · rw [yai ht,yai ht,yaL hb];rfl
      have hsz:wm.heap.size=w'.heap.size:=by show hp.size=_;simp [hp]
      have hmv:Mv (fun b=> ¬Mine j b∧(iT w0 K g).own b) w wm:=⟨e7.os,e7.tape,e7.output,by rw [hsz];exact e7.size,fun b hb hnb=>by
        rw [KN b (yae hb e7.size)];by_cases ht:sD j e.rows b
        · rw [yaj ht]
        · rw [yai ht];refine e7.block b hb ?_;rintro (⟨hF,ho⟩|h)
          · exact hnb ⟨(g1 b hF).2,ho⟩
          · exact ht h⟩
      have hFn: ∀b,F' b→ ¬sD j e.rows b:=fun b hF' ht=>by
        rcases (e5 b hF').2 with hF|hF
        · exact (g1 b hF).2 (hT b ht).2.1
        · have:=(hT b ht).1;omega
      have hns:(iT w0 K g).G e.e.gs' (jq j H.nx qs) wm:=⟨F',fun b hF'=>⟨by rw [hsz];exact (e5 b hF').1,fun hm=>by
        have hm:=Iz hnone hm;rcases (e5 b hF').2 with hF|hF
        · exact (g1 b hF).2 hm
        · obtain ⟨k,L,k1,k2,k3⟩:=hm;have:=hi.blk k L k1 k2;omega⟩,g.loc _ _ _ _ _ _ e4 (fun _ _ h=>h) (fun b hb=>by rw [KN b (e5 b hb).1,yai (hFn b hb)]) (by omega)⟩
      obtain ⟨i1,i2⟩:=Inv.ent (e:=e.e) hi hgs e2 hns hmv;have hjq: ∀r∈e.rows,jq j H.nx qs r.1=j r.1:=fun r hr=>by
        obtain ⟨L,hL⟩:=hpl r hr;rw [hL];exact UK hi qs _ _ hL
      have hTq: ∀b,sD (jq j H.nx qs) e.rows b↔sD j e.rows b:=fun b=>by
        constructor
        · rintro ⟨r,hr,L,hL,hb⟩;exact ⟨r,hr,L,(hjq r hr)▸hL,hb⟩
        · rintro ⟨r,hr,L,hL,hb⟩;exact ⟨r,hr,L,(hjq r hr).symm▸hL,hb⟩
      obtain ⟨z1,z2,z3,z4,z5⟩:=e.e.QX H hi.jo hgs;have KW: ∀r∈e.rows,(e.e.heap H).m.get r.1=H.m.get r.1:=fun r hr=>by
        obtain ⟨L,hL⟩:=hpl r hr;have:=hi.dom _ _ hL;have hn0:=hi.rF hL;rw [z4 r.1 (by omega),yai (by omega)]
      have i3:=Inv.turns e.rows (w':=w') i1 hf (fun r hr=>by
        obtain ⟨v,L,vs,arr,t,q1,q2,q3,q4,q5,q6,_⟩:=hrow r hr;obtain ⟨vs',k1,k2⟩:=e6 r hr L q4;exact ⟨v,L,vs',by rw [KW r hr];exact q1,by omega,by rw [hjq r hr];exact q4,q6,(ji m (MW s3 r hr).2).2 k1,k2⟩)
        (fun r hr r' hr' hh L L' hL hL'=>hne r hr r' hr' hh L L' ((hjq r hr)▸hL) ((hjq r' hr')▸hL')) ⟨hp,rfl⟩ hsz (fun b hb=>by
          rw [hTq] at hb;by_cases hlt:b<w'.heap.size
          · rw [KN b hlt,yai hb]
          · rw [ya4 (by omega),ya4 (by omega)])
      obtain ⟨y1,y2,y3⟩:=Wj e.rows (e.e.heap H);refine ⟨u,rfl,e.e.res,_,_,(lY m s2).2 e3,i3,⟨i2.sub,i2.fresh,fun n hp hn hlt=> ?_,by rw [y1];exact i2.nx⟩,hk⟩;have hnr:n∉ug e.rows:=fun hm=>by
        have:=vI hv n (Ot Q5 _ hm);rw [hn] at this;cases this
      rw [y3 n hnr,y2];exact i2.keep n hp hn hlt
theorem zu7 {P:Program} {ρ:Val} {x:Cx} {l:List aG} {m:List nU} (h1:nk P ρ x (bB l)) (h2:nk P ρ x (DI m)):nk P ρ x (Ea l m):=by
 intro f args H r hr;unfold Ea at hr;split at hr
 ·rename_i r' h;cases hr;exact h1 f args H _ h
 ·exact h2 f args H r hr
theorem zuP {P:Program} {ρ:Val} {w:World} {K:Nat→Prop} {g:bg} {bl:List (Nat×Nat)} {iN:List Sh} {gs:Nat} {nC:List aG} {FR:List nU} {tu:List dD} {sH:List dX} {n:Nat} {f:FuncId} {args:List AV} {vals:List Value} {ls:List Leaf} {asm:List (SB×Bool)} {ps:List (List (SB×Bool)×Nat)}
  (hmo:P.follows .mixedOrders=true)
  (h:(fG P (Ea nC FR) (fK tu) (fJ sH) n (.call f args (bn gs iN) (cK ls 0))).ways asm=some ps)
  (hs:(bD iN&&zag nC&&Dc FR&&fZ tu&&gq sH&&AV.bK args&&dh ls)=true)
  (hK: ∀b,K b→b<w.heap.size) (ho:qj ρ (aT bl) (iT w K g) bl iN) (hap:apart bl iN) (hG:g.G gs (aT bl) w) (he:Ei P ρ w K g nC) (hw:Px P ρ w K g FR) (hl:Jc P ρ w K g tu) (wX:Ju P ρ w K g sH) (ha:RL ρ (aT bl) args vals) (ht:Told ρ asm):
  Calls P f vals.toArray w fun e w'=> ∃p∈ps,Told ρ p.1∧ ∃l,ls[p.2]? =some l∧ ∃j,wO ρ w K g bl l e w' j:=by
 simp only [ybe] at hs;obtain ⟨⟨⟨⟨⟨⟨s1,s2⟩,sw⟩,s5⟩,s9⟩,s3⟩,s4⟩:=hs;unfold Ob.ways at h;cases hps:(fG P (Ea nC FR) (fK tu) (fJ sH) n (.call f args (bn gs iN) (cK ls 0))).paths asm with
 | none=>rw [hps] at h;cases h
 | some ps0=>
 rw [hps] at h;cases h;have h:=hps;refine yaq (zxy (x:=iT w K g) hmo (fun m=>zu7 (Oj (Gs m s2 he)) (ztM m sw hw)) (fun m=>Zo m s5 hl) (fun m=>Zk m s9 wX) (fun m=>Oe hK (GU m s1 ho) hap hG) (fun m=>(ji m s3).2 ha) ht h) fun e w' hh=> ?_;obtain ⟨p,hp,hto,l,hl,m,u,v,j',H',rfl,h1,h2,h3,h4⟩:=hh;obtain ⟨x1,x2,x3,x4⟩:=Gh s4 hl;exact ⟨(p.1.drop asm.length,p.2),Gu hp,fun c hc=>hto c (ybi hc),l,hl,j',OL x1 x2 x3 x4 h1 h2 h3 h4⟩
end Go.Dw
namespace Go.Proofs
open Go.Dw Go.RowKit
def Tryz.DV (n:Nat):Nat→List AV
 | 0=> []
 | k+1=> .int .u8 (TA n)::DV (n+1) k
def Tryz.Tp:AV:= .sx 0 (.lit 16) 1 [(.lit 0,1)]
def Tryz.yH (i s:Nat):Nat→List aO
 | 0=> []
 | k+1=>⟨i,0,255,0,8,s⟩::yH (i+1) (s+8) k
theorem Tryz.ztK (g:Nat→Int) (a k:Nat):ax g a (k+1)=g a+256*ax g (a+1) k:=by
 induction k with
 | zero=>simp [ax]
 | succ k ih=>
  rw [ax,ih]
  conv=>rhs;rw [ax]
  rw [show a+1+k=a+(k+1) by omega,yc9,Int.mul_add];have:g (a+(k+1))*(256^k*256)=256*(g (a+(k+1))*256^k):=by
   rw [←Int.mul_assoc,ydr _ 256]
  omega
theorem Tryz.mD (g:Nat→Int) (hg: ∀j,0≤g j∧g j<256) (a k:Nat):0≤ax g a k∧ax g a k<256^k:=lg g hg a k
theorem Tryz.zpk {ρ:Val} {g:Nat→Int} (hg: ∀j,0≤g j∧g j<256): ∀(k i s a:Nat),(∀t,t<k→ρ.i (i+t)=g (a+t))→aN ρ (yH i s k) 0=(ax g a k).toNat*2^s
 | 0,i,s,a,_=>by simp [yH,aN,ax]
 | k+1,i,s,a,h=>by
  have h0:=h 0 (by omega);rw [ybk,ybk] at h0;have ih:=zpk hg k (i+1) (s+8) (a+1) fun t ht=>by
   have:=h (t+1) (by omega);rw [show i+1+t=i+(t+1) by omega,show a+1+t=a+(t+1) by omega];exact this
  obtain ⟨b0,b1⟩:=hg a;obtain ⟨x,hx⟩:=yaT b0;obtain ⟨y,hy⟩:=yaT (mD g hg (a+1) k).1;rw [hx] at b1;unfold yH aN;rw [ih,ztK,hx,hy];simp only [aO.den,h0,hx,ya0,ycr];have e1:max 0 (min x 255)=x:=by omega
  rw [e1,ybd (by omega)];have e2:((x:Int)+256*(y:Int)).toNat=x+256*y:=by omega
  rw [e2,yb1,ycI,ydf];have e3:y*(2^s*2^8)=y<<<(s+8):=by rw [yb1,ydf]
  rw [e3,←ycF (by rw [ydf,ybE];exact Nat.mul_lt_mul_of_pos_left (by omega) (Nat.pow_pos (by decide))),yb1,ydf,ybI];have:y*(2^s*2^8)=256*y*2^s:=by rw [ybE (2^s),←Nat.mul_assoc,ybE y]
  omega
theorem Tryz.GR {ρ:Val} {g:Nat→Int} (hg: ∀j,0≤g j∧g j<256) (k i a:Nat) (h: ∀t,t<k→ρ.i (i+t)=g (a+t)):SE.den ρ (.aQ (yH i 0 k) 0)=ax g a k:=by
 show ((aN ρ (yH i 0 k) 0:Nat):Int)=_;rw [zpk hg k i 0 a h];have:=(mD g hg a k).1;simp;omega
def Tryz.JQ (g:Nat→Int) (a:Nat) (v:Value):Val:=⟨fun i=>g (a+(i-20)),fun _=>false,fun _=>v⟩
theorem Tryz.Zh {ρ:Val} {j:J} {g:Nat→Int} (hg: ∀j,0≤g j∧g j<256): ∀(k i a:Nat),(∀t,t<k→ρ.i (i+t)=g (a+t))→RL ρ j (DV i k) (row g a k)
 | 0,i,a,_=>by unfold DV row;exact RL.nil
 | k+1,i,a,h=>by
  have h0:=h 0 (by omega);rw [ybk,ybk] at h0;have e:row g a (k+1)= .int .u8 (g a)::row g (a+1) k:=by
   unfold row;rw [List.range_succ_eq_map,yaJ,ycR];congr 1;apply ycO;intro t _;show Value.int .u8 (g (a+(t+1)))= .int .u8 (g (a+1+t));rw [show a+(t+1)=a+1+t by omega]
  rw [e];unfold DV;obtain ⟨b0,b1⟩:=hg a;refine af (ai ?_) (Zh hg k (i+1) (a+1) fun t ht=>by
   have:=h (t+1) (by omega);rw [show i+1+t=i+(t+1) by omega,show a+1+t=a+(t+1) by omega];exact this)
  rw [zFx (by rw [h0];exact b0) (by rw [h0];exact b1),h0]
end Go.Proofs
namespace Go.Proofs
open Go.RowKit
structure Tryz.Cl (w:World) (b:Nat) (l:List Value):Prop where
 lt:b<w.heap.size
 cell: ∀(i:Nat) (v:Value),l[i]? =some v→w.cell? ⟨b,i,none⟩=some v
 free: ∀i,w.frozen? ⟨b,i,none⟩=false
theorem Tryz.Cl.below {w w':World} {b B:Nat} {l:List Value} (h:Cl w b l) (hb:Below B w w') (hB:b<B):Cl w' b l:=
 ⟨yae h.lt hb.size,fun i v hv=>(hb.cell (p:=⟨b,i,none⟩) hB).trans (h.cell i v hv),fun i=>(hb.frozen (p:=⟨b,i,none⟩) hB).trans (h.free i)⟩
theorem Tryz.Cl.at {w:World} {b:Nat} {arr:Array Value} {t:TypeId} (h:w.heap[b]? =some (.cells arr t (0,0))):Cl w b arr.toList:=
 ⟨(yap.1 h).1,fun i v hv=>by rw [yc7 _ _ i _ _ (0,0) h,←ybt];exact hv,fun i=>by simp [World.frozen?,h]⟩
theorem Tryz.Cl.new (w:World) (arr:Array Value) (t:TypeId):Cl (w.alloc (.cells arr t)) w.heap.size arr.toList:=Cl.at (ybv w _)
theorem Tryz.Cl.new2 {w:World} {b:Nat} {arr:Array Value} {t:TypeId} (h:w.heap.size=b):Cl (w.alloc (.cells arr t)) b arr.toList:=h▸Cl.new w arr t
theorem Tryz.Cl.alloc {w:World} {b:Nat} {l:List Value} (h:Cl w b l) (o:Obj):Cl (w.alloc o) b l:=h.below ((yah _ w).alloc (yab _) o) h.lt
theorem Tryz.Cl.set {w:World} {b:Nat} {l:List Value} (h:Cl w b l) (j:Nat) (v:Value) (hj:j<l.length):Cl (w.setCell ⟨b,j,none⟩ v) b (l.set j v):=by
 refine ⟨by have:=h.lt;simpa using this,fun i u hu=> ?_,fun i=>by rw [yde];exact h.free i⟩;by_cases hij:i=j
 ·subst hij;rw [List.getElem?_set_self hj] at hu;cases hu;exact ybN _ _ _ (by rw [h.cell i _ (yao hj)];rfl)
 ·rw [List.getElem?_set_ne (fun e=>hij e.symm)] at hu;rw [ycs w ⟨b,j,none⟩ ⟨b,i,none⟩ v (fun e=>hij (yaI Addr.off e).symm)];exact h.cell i u hu
open Go.Dw Go.Maps Go.Sort Go.Deep
theorem Tryz.jB {ρ:Val} {i lo hi fr n sh:Nat} (h0:(lo:Int)≤ρ.i i) (h1:ρ.i i≤(hi:Int)):SE.den ρ (.aQ [⟨i,lo,hi,fr,n,sh⟩] 0)=(ρ.i i/(2^fr:Nat)%(2^n:Nat))*(2^sh:Nat):=by
 obtain ⟨x,hx⟩:=yaT (Int.le_trans (ycU lo) h0);rw [hx] at h0 h1;simp only [SE.den,aN,aO.den,hx,ya0,ydg];have e:max lo (min x hi)=x:=by omega
 rw [e,ydQ,yb1];show ((x/2^fr%2^n*2^sh:Nat):Int)=_;push_cast;rfl
def Tryz.fq (N:Nat) (aP n:Int):Int×Int:=if n=0∨ ¬n%16=0∨64<n/16 then (0,4) else if aP+n≤N then (n/16,0) else (0,5)
set_option maxRecDepth 100000 in
theorem Tryz.zq4 {P L Bs B N:Nat} {A n:Int} {g:Nat→Int} {w:World} (st:GM w P L Bs B N g) (hN:N≤1048576) (h1:1≤N) (ha0:0≤A) (ha1:A<18446744073709551616) (hn0:0≤n) (hn1:n<4294967296):
    Calls prog 178 #[.pointer (some ⟨P,0,none⟩),.int .u64 A,.int .u32 n] w fun e w'=>e= .returned (.tuple #[.int .i64 (fq N A n).1,.int .i64 (fq N A n).2])∧Below w.heap.size w w':=by
  have t1:n.tmod 16=n%16:=ycP hn0;have t2:n.tdiv 16=n/16:=ydK hn0;have hhas:=zx7 P L Bs B N A n g w st hN h1 ha0 ha1 hn0;have wk:IntKind.wrap .u64 n=n:=cZ (by omega) (by omega);have wd:IntKind.wrap .i64 (n/16)=n/16:=gy (by omega) (by omega);have wq:IntKind.wrap .u32 (n/16)=n/16:=Py (by omega) (by omega);unfold fq;by_cases hbad:n=0∨ ¬n%16=0∨64<n/16
  · rw [yaj hbad];go_enter func178,ntmps178;by_cases q1:n=0
    · subst q1;go_wp2;go_ret2;exact ⟨rfl,yah _ _⟩
    · by_cases q2:n%16=0
      · have q3:64<n/16:=by omega
        go_wp2;go_ret2;exact ⟨rfl,yah _ _⟩
      · go_wp2;go_ret2;exact ⟨rfl,yah _ _⟩
  · rw [yai hbad];have q1: ¬n=0:=fun h=>hbad (.inl h);have q2:n%16=0:=by omega
    have q3: ¬64<n/16:=fun h=>hbad (.inr (.inr h));by_cases hin:A+n≤N
    · rw [yaj hin];rw [yaG (show 1≤n∧A+n≤N from ⟨by omega,hin⟩)] at hhas;go_enter func178,ntmps178;go_wp2_with (first
        | (go_at_call 179;refine hhas.mono ?_;rintro en w1 ⟨rfl,hb1⟩)
        | go_in)
      go_ret2;exact ⟨rfl,hb1⟩
    · rw [yai hin];rw [yar (show¬(1≤n∧A+n≤N) from fun h=>hin h.2)] at hhas;go_enter func178,ntmps178;go_wp2_with (first
        | (go_at_call 179;refine hhas.mono ?_;rintro en w1 ⟨rfl,hb1⟩)
        | go_in)
      go_ret2;exact ⟨rfl,hb1⟩
def Tryz.iC (N:Nat) (l:List Sg):Int:=if l= []∨ ¬gH l=0 then 4 else nR N l
set_option maxRecDepth 100000 in
theorem Tryz.zuX {A:Nat→Prop} {w:World} {P L Bs B N:Nat} {g:Nat→Int} {sa:Option Addr} {c:Nat} {l:List Sg} (hm:GM w P L Bs B N g) (hN:N≤1048576) (h1:1≤N) (h:aX A w (.slice sa l.length c) l) (hln:l.length<4611686018427387904)
    (Km: ∀R o,sa=some ⟨R,o,none⟩→R≠P∧R≠L∧R≠Bs∧R≠B):
    Calls prog 156 #[.pointer (some ⟨P,0,none⟩),.slice sa l.length c] w fun e w'=>e= .returned (.tuple #[if iC N l=0 then .slice sa l.length c else .slice none 0 0,.int .i64 (iC N l)])∧Below w.heap.size w w':=by
  have hck:=M4 h;have hin:=fun w1 (hb:Below w.heap.size w w1)=>zvL (hm.below hb) hN h1 (aX.below h hb) hln Km;by_cases hne:l= []
  · subst hne;have hE:iC N []=4:=by unfold iC;exact yaj (.inl rfl)
    rw [hE,yai (by decide)];go_enter func156,ntmps156;go_wp2_with (first
      | (go_at_call 84;refine hck.mono ?_;rintro en w3 ⟨rfl,hb3⟩)
      | go_in)
    go_ret2;exact ⟨rfl,yah _ _⟩
  · have hne': ¬((l.length:Nat):Int)=0:=fun e=>hne (ybn.1 (by omega));by_cases he:gH l=0
    · have hE:iC N l=nR N l:=by unfold iC;exact yai fun q=>q.elim hne fun q=>q he
      rw [hE];rw [he] at hck;clear hE;generalize nR N l=z at*;by_cases hz:z=0
      · rw [yaj hz];subst hz;go_enter func156,ntmps156;go_wp2_with (first
          | (go_at_call 84;refine hck.mono ?_;rintro en w3 ⟨rfl,hb3⟩)
          | (go_at_call 172;refine (hin _ hb3).mono ?_;rintro en w4 ⟨rfl,hb4⟩)
          | go_in)
        go_ret2;exact ⟨rfl,hb3.trans (hb4.mono hb3.size)⟩
      · rw [yai hz];have hz2:(z !=0)=true:=by simpa using hz
        go_enter func156,ntmps156;go_wp2_with (first
          | (go_at_call 84;refine hck.mono ?_;rintro en w3 ⟨rfl,hb3⟩)
          | (go_at_call 172;refine (hin _ hb3).mono ?_;rintro en w4 ⟨rfl,hb4⟩)
          | go_in)
        go_ret2;exact ⟨rfl,hb3.trans (hb4.mono hb3.size)⟩
    · have hE:iC N l=4:=by unfold iC;exact yaj (.inr he)
      rw [hE,yai (by decide)];clear hE;generalize gH l=z at*;have he2:(z !=0)=true:=by simpa using he
      go_enter func156,ntmps156;go_wp2_with (first
        | (go_at_call 84;refine hck.mono ?_;rintro en w3 ⟨rfl,hb3⟩)
        | go_in)
      go_ret2;exact ⟨rfl,hb3⟩
end Go.Proofs
namespace Go.Proofs
open Go.Dw Go.RowKit
structure Tryz.WS where
 acu:List Sg
 n:Int
 e:Int
def Tryz.bG (w:World) (b2:Nat) (v:Value) (l:List Sg):Prop:=w.ownsRow b2 43 3 v l.length (dV l)
theorem Tryz.bG.kept {w w':World} {b2:Nat} {v:Value} {l:List Sg} (h:bG w b2 v l) (hb: ∀b,v.ownBlock=some b→w'.heap[b]? =w.heap[b]?):bG w' b2 v l:=by
 obtain ⟨h1,h2⟩:=h;refine ⟨h1,?_⟩;rcases h2 with h2|⟨G,cap,cur,e,h3,h4,h5⟩
 ·exact .inl h2
 ·exact .inr ⟨G,cap,cur,e,h3,by rw [hb G (by rw [e];rfl)];exact h4,h5⟩
theorem Tryz.bG.lt {w:World} {b2:Nat} {v:Value} {l:List Sg} (h:bG w b2 v l): ∀b,v.ownBlock=some b→b2≤b∧b<w.heap.size∧ ∃cur e fr,w.heap[b]? =some (.cells cur e fr):=fun b hb=>by
 obtain ⟨h1,h2⟩:=h;rcases h2 with ⟨rfl,_⟩|⟨G,cap,cur,rfl,h3,h4,h5⟩
 ·cases hb
 ·cases hb;exact ⟨h3,(yap.1 h4).1,_,_,_,h4⟩
theorem Tryz.bG.xQ {w:World} {b2:Nat} {v:Value} {l:List Sg} (h:bG w b2 v l) (hok: ∀x∈l,x.ok) {A:Nat→Prop} (hA: ∀b,b2≤b→ ¬A b):aX A w v l:=by
 obtain ⟨h1,h2⟩:=h;rcases h2 with ⟨rfl,h2⟩|⟨G,cap,cur,rfl,h3,h4,h5,h6,h7,h8⟩
 ·have:l= []:=ybn.1 h2;subst this;exact aX.none
 ·refine ⟨_,cap,rfl,hok,.inr ⟨G,0,rfl,hA G h3,fun i y hy=> ?_⟩⟩;have hlt:i<(dV l).length:=(yax.1 hy).1;rw [←h8] at hy;have hi:i<l.length*3:=by rw [CS] at hlt;omega
  rw [ybw hi] at hy;simp only [World.cell?,h4,yau];simpa using hy
theorem Tryz.bG.one {w:World} {b2:Nat} {v:Value} {l:List Sg} (h:bG w b2 v l):v.oneCell'=true:=by
 obtain ⟨h1,h2⟩:=h;rcases h2 with ⟨rfl,h2⟩|⟨G,cap,cur,rfl,_⟩<;>rfl
structure Tryz.V6 where
 E:Nat
 Mb:Nat
 Nn:Nat
 Tb:Nat
 Fb:Nat
 Lc:Nat
def Tryz.vp (b:Nat):Value:= .pointer (some ⟨b,0,none⟩)
theorem Tryz.vR: ∀ {bl:List (Nat×Nat)} {l:List Sh},(bl.map (·.1)).Nodup→apart bl l
 | [], _,_=>by unfold apart;trivial
 | b::bl,[],_=>by unfold apart;trivial
 | b::bl,s::l,h=>by
  rw [yaJ,List.nodup_cons] at h;refine ⟨fun _ i b' s' h1 _ _ e=>h.1 (e▸ycN (ya5 h1)),vR h.2⟩
def Tryz.jH (b2:Nat) (v:Value) (l:List Sg) (F:Nat→Prop) (w:World):Prop:=bG w b2 v l∧ ∀b,v.ownBlock=some b→F b
theorem Tryz.jH.kept {b2:Nat} {v:Value} {l:List Sg} {F:Nat→Prop} {w w':World} (h:jH b2 v l F w) (hb: ∀b,F b→w'.heap[b]? =w.heap[b]?):jH b2 v l F w':=⟨h.1.kept fun b e=>hb b (h.2 b e),h.2⟩
theorem Tryz.tV {j:J} {n:Nat} {u:Value}:iE (jq j n [u]) n=some u:=by
 unfold iE jq;rw [yaj ⟨yab _,by simp⟩];simp
section
variable {ρ:Val} {P L Bs B N:Nat} {aD size k e n A Ln F Nx cnt x aby e3 n3:Int} {inner table:Bool} {v:Value} {g:Nat→Int} {b2 W0:Nat} {l l3:List Tryz.Sg} {a:Nat} {w0:World} {K:Nat→Prop}
theorem Tryz.D8:(prog.info? 43).map (fun i=>(i.zero,i.size,i.bytes))=some (some (.agg #[.int .u64 0,.int .u32 0,.bool false]),3,16):=by kernel_rfl
end
end Go.Proofs
namespace Go.Proofs
open Go.Dw Go.RowKit
theorem Tryz.Ih {bl:List (Nat×Nat)} {b:Nat} (h:Mine (aT bl) b):b∈bl.map (·.1):=by
 obtain ⟨k,L,h1,_,h3⟩:=h
 match k,h1 with
 | 0,h1=>cases h1
 | k+1,h1=>
  have h1:(bl[k]?).map (fun b=>(⟨b.1,b.2,0,none⟩:Dw.Loc))=some L:=h1;cases hk:bl[k]? with
  | none=>rw [hk] at h1;cases h1
  | some p=>
   rw [hk] at h1;cases h1;exact ya2.2 ⟨p,ya5 hk,h3⟩
section
variable {w:World} {a:Act} {P L Bs B N:Nat} {g:Nat→Int} {b2:Nat} {x:Tryz.V6} {table:Bool} {v:Value} {s:Tryz.WS} {M:Nat} {aD size k:Int} {inner:Bool} {seen:List Int} {ρ:Val} {A Ln F Nx cnt xx aby e3 n3:Int} {l3:List Tryz.Sg} {aa:Nat}
theorem Tryz.zAf {ρ:Val} {j:J} {w:World} {b:Nat} {row:List AV} {vs:List Value} (h:Own w b vs) (hx:AV.kS row=true) (hr:RL ρ j row vs):Own w b (AV.aI ρ (dZ j) row):=(sG hx hr)▸h
end
end Go.Proofs
namespace Go.Proofs
open Go.Dw Go.RowKit
section
variable {w:World} {a:Act} {P L Bs B N:Nat} {g:Nat→Int} {b2:Nat} {x:Tryz.V6} {table:Bool} {v:Value} {s:Tryz.WS} {M:Nat} {aD size k:Int} {inner:Bool} {seen:List Int} {f:Nat} {tab:Int→Int→Int→Tryz.WS→Tryz.WS}
theorem Tryz.uj {ρ:Val} {j:J} {n:Nat} {u:Value} (hu:iE j n=some u):(AV.opq n none).val ρ (dZ j)=u:=by
 unfold iE at hu;show (dZ j n).q.getD undef=u;unfold dZ;cases hj:j n with
 | none=>rw [hj] at hu;cases hu
 | some Lq=>
  rw [hj] at hu;have hu:Lq.q=some u:=hu;show Lq.q.getD undef=u;rw [hu];rfl
end
end Go.Proofs
namespace Go.Proofs
open Go.Dw Go.RowKit
theorem Tryz.zrk {ρ:Val} {lc:Nat→Dw.Loc}: ∀n:Nat,AV.aI ρ lc (List.replicate n (.int .u8 (.lit 0)))=List.replicate n (.int .u8 0)
 | 0=>rfl
 | n+1=>by
  rw [List.replicate_succ,List.replicate_succ,←zrk n];rfl
set_option maxRecDepth 10000 in
theorem Tryz.zvZ {w:World} {R:Nat} (c0:w.cell? ⟨R,0,none⟩=some (.int .u64 0)) (c1:w.cell? ⟨R,1,none⟩=some (.int .u64 20000)):
  Calls prog 31 #[.slice (some ⟨R,0,none⟩) 1 1] w fun e w'=> ∃P L Bs B,e= .returned (.tuple #[.pointer (some ⟨P,0,none⟩),.int .i64 0])∧bP w' P L Bs B 20000 (fun _=>0)∧Below w.heap.size w w'∧w.heap.size≤P∧w.heap.size≤L∧w.heap.size≤Bs∧w.heap.size≤B:=by
 obtain ⟨ρ,hρ⟩: ∃ρ:Val,ρ=cB [] [] []:=⟨_,rfl⟩;have hj1:aT [(R,0)] 1=some ⟨R,0,0,none⟩:=rfl;have r2:w.rangeAt R 0 [.int .u64 0,.int .u64 20000]:=fun j v hv=>by
  match j,hv with
  | 0,hv=>cases hv;exact c0
  | 1,hv=>cases hv;exact c1
 refine yaq (zap (ρ:=ρ) (K:=fun _=>False) (g:=bg.none) (bl:= [(R,0)]) (vals:= [.slice (some ⟨R,0,none⟩) 1 1]) mixed zzm zCz (fun b h=>h.elim)
  ⟨oG r2 (by simp) (af (ai rfl) (af (ai rfl) RL.nil)) (fun h=>h),trivial⟩ ⟨fun hh=>(by cases hh),trivial⟩ fo trivial (af ⟨⟨R,0,0,none⟩,hj1,by simp [Vl],rfl⟩ RL.nil) (aR.2 trivial)) fun e w' hh=> ?_
 obtain ⟨_,j,he⟩:=mE hh;have hb:=gF he (fun _ h=>h);have hr:=he.ret;simp only [AV.val,AV.aI,aC] at hr;have n4:=he.names 4 (by simp [AV.names,AV.mQ]);obtain ⟨f4,o4⟩:=he.fresh 4 (by simp) _ n4;have rw4:=he.rows.2.1 _ n4;have n3:=he.LX.2.1 _ n4 3 (by simp [AV.names,AV.mQ]);have n7:=he.LX.2.1 _ n4 7 (by simp [AV.names,AV.mQ]);obtain ⟨f3,o3⟩:=he.fresh 3 (by simp) _ n3;obtain ⟨f7,o7⟩:=he.fresh 7 (by simp) _ n7;have n5:=he.LX.2.2.2.1 _ n7 5 (by simp [AV.names,AV.mQ]);obtain ⟨f5,o5⟩:=he.fresh 5 (by simp) _ n5;have w3:=(he.rows.1 _ n3).2 f3 o3;have w4:=rw4.2 f4 o4;have w7:=(he.rows.2.2.2.1 _ n7).2 f7 o7;have w5:=(he.rows.2.2.1 _ n5).2 f5 o5;simp only [AV.val,AV.aI,aC,o3,o5,o7] at w3 w4 w7;rw [show (5,List.replicate 20000 (AV.int IntKind.u8 (SE.lit 0))).2=List.replicate 20000 (AV.int IntKind.u8 (SE.lit 0)) from rfl,zrk] at w5;rw [o4] at hr;have z: ∀ {n m:Nat} (hn: ∃r∈ [(3,[AV.int IntKind.u64 (SE.lit 0),AV.int IntKind.u64 (SE.lit 20000)]),(4,[AV.sl 3 0 1 (kC.upto 0),AV.sl 7 0 1 (kC.upto 0)]),(5,List.replicate 20000 (AV.int IntKind.u8 (SE.lit 0))),(7,[AV.sl 5 0 20000 (kC.known 20000)])],r.1=n) (hm: ∃r∈ [(3,[AV.int IntKind.u64 (SE.lit 0),AV.int IntKind.u64 (SE.lit 20000)]),(4,[AV.sl 3 0 1 (kC.upto 0),AV.sl 7 0 1 (kC.upto 0)]),(5,List.replicate 20000 (AV.int IntKind.u8 (SE.lit 0))),(7,[AV.sl 5 0 20000 (kC.known 20000)])],r.1=m),n≠m→j n=some (dZ j n)→j m=some (dZ j m)→w.heap.size≤(dZ j n).blk→(dZ j n).blk≠(dZ j m).blk:=fun hn hm hne h1 h2 h3 e=>by
  obtain ⟨r,hr,rfl⟩:=hn;obtain ⟨r',hr',rfl⟩:=hm;exact he.apart r hr r' hr' hne _ _ h1 h2 e (.inl h3)
 have g3:w.heap.size≤(dZ j 3).blk:=f3.elim id False.elim;have g4:w.heap.size≤(dZ j 4).blk:=f4.elim id False.elim;have g5:w.heap.size≤(dZ j 5).blk:=f5.elim id False.elim;have g7:w.heap.size≤(dZ j 7).blk:=f7.elim id False.elim;have q45:=z ⟨_,.tail _ (.head _),rfl⟩ ⟨_,.tail _ (.tail _ (.head _)),rfl⟩ (show (4:Nat)≠5 by decide) n4 n5 g4;have q35:=z ⟨_,.head _,rfl⟩ ⟨_,.tail _ (.tail _ (.head _)),rfl⟩ (show (3:Nat)≠5 by decide) n3 n5 g3;have q75:=z ⟨_,.tail _ (.tail _ (.tail _ (.head _))),rfl⟩ ⟨_,.tail _ (.tail _ (.head _)),rfl⟩ (show (7:Nat)≠5 by decide) n7 n5 g7;refine ⟨(dZ j 4).blk,(dZ j 3).blk,(dZ j 7).blk,(dZ j 5).blk,hr,⟨⟨_,jK w4 (i:=0) rfl⟩,⟨_,jK w4 (i:=1) rfl⟩,jK w3 (i:=0) rfl,jK w3 (i:=1) rfl,jK w7 (i:=0) rfl,fun i hi=> ?_,fun i hi=> ?_,fun i=>⟨ybW _,by decide⟩,q45,q35,q75,Eo w5⟩,hb,g4,g3,g7,g5⟩
 ·exact jK w5 (i:=i) (by rw [List.getElem?_replicate];simp [hi])
 ·obtain ⟨arr,t,e1,_⟩:=w5;simp [World.frozen?,e1]
theorem Tryz.zvA (a m:Int) (hm:0<m):((if a.tmod m<0 then a.tmod m+m else a.tmod m)=a%m)∧ -m<a.tmod m∧a.tmod m<m:=by
 rw [Int.tmod_eq_emod];have h1:=ybP a (Int.ne_of_gt hm);have h2:=ybF a hm;have h3:((m.natAbs:Nat):Int)=m:=Int.natAbs_of_nonneg (Int.le_of_lt hm);by_cases h:0≤a∨m ∣ a
 ·rw [yaj h];simp only [Int.sub_zero,Int.ofNat_zero];refine ⟨?_,?_,?_⟩<;>first|omega|(split<;>omega)
 ·rw [yai h,h3];have h4:a%m≠0:=fun h0=>h (.inr (Int.dvd_of_emod_eq_zero h0));refine ⟨?_,?_,?_⟩<;>first|omega|(split<;>omega)
set_option maxRecDepth 100000 in
theorem Tryz.Dv (a m:Int) (hm:1≤m∧m≤1000000) (w:World):
  Calls prog 7 #[.int .i64 a,.int .i64 m] w fun e w'=>e= .returned (.int .i64 (a%m))∧w'=w:=by
 obtain ⟨hr,hlo,hhi⟩:=zvA a m (by omega);have hq:IntKind.i64.wrap (a.tmod m)=a.tmod m:=gy (by omega) (by omega);have hm0:m≠0:=by omega
 have hm1: ¬m<1:=by omega
 by_cases h0:a.tmod m<0
 ·rw [yaj h0] at hr;have hq2:IntKind.i64.wrap (a.tmod m+m)=a.tmod m+m:=gy (by omega) (by omega);rw [←hr];go_enter func7,ntmps7;go_wp2;go_ret;exact ⟨rfl,rfl⟩
 ·rw [yai h0] at hr;rw [←hr];go_enter func7,ntmps7;go_wp2;go_ret;exact ⟨rfl,rfl⟩
theorem Tryz.bG.nil (w:World) (b2:Nat):bG w b2 (.slice none 0 0) []:=⟨rfl,.inl ⟨rfl,rfl⟩⟩
theorem Tryz.bG.mono {w:World} {b1 b2:Nat} {v:Value} {l:List Sg} (h:bG w b2 v l) (hb:b1≤b2):bG w b1 v l:=by
 obtain ⟨h1,h2⟩:=h;refine ⟨h1,?_⟩;rcases h2 with h2|⟨G,cap,cur,e,h3,h4⟩
 ·exact .inl h2
 ·exact .inr ⟨G,cap,cur,e,yaw hb h3,h4⟩
theorem Tryz.bG.slice {w:World} {b2:Nat} {v:Value} {l:List Sg} (h:bG w b2 v l): ∃sa c,v= .slice sa l.length c∧ ∀R o,sa=some ⟨R,o,none⟩→v.ownBlock=some R:=by
 obtain ⟨h1,h2⟩:=h;rcases h2 with ⟨rfl,h2⟩|⟨G,cap,cur,rfl,_⟩
 ·exact ⟨none,0,by rw [h2],fun R o h=>by cases h⟩
 ·exact ⟨_,cap,rfl,fun R o h=>by cases h;rfl⟩
open Go.Maps Go.Sort
section
variable {A:Nat→Prop} {w:World} {S P M:Nat} {r:Tryz.Rg} {s:Tryz.SS}
end
end Go.Proofs
namespace Go.Proofs
open Go.Dw Go.RowKit
section
variable {A:Nat→Prop} {w:World} {S P L Bs B M N:Nat} {r:Tryz.Rg} {s:Tryz.SS} {g:Nat→Int}
theorem Tryz.Wl {l:List Sg} (hok: ∀x∈l,x.ok):0≤(iO l).1∧(iO l).1<18446744073709551616∧0≤(iO l).2∧(iO l).2<18446744073709551616:=by
 unfold iO;by_cases hE:gH l=0
 ·rw [yaj hE];have hl:=GZ hE;have h1:=xY false l hok;have h2:=xY true l hok;refine ⟨h1.1,?_,h2.1,?_⟩
  ·show dU false l<_;omega
  ·show dU true l<_;omega
 ·rw [yai hE];decide
end
end Go.Proofs
namespace Go.Dw
def Fw (n:Nat):List Nat→Bool
 | [] => false
 | m::l=>match Nat.beq n m with|true=>true|false=>Fw n l
abbrev KE:=SE×Nat×Nat
def DZ:List ME→Option (List KE)
 | [] => some []
 | e::l=>match e.key with
  | .int .i64 x=>(match bnd x with
   | some (p,q)=>(match Nat.blt q 9223372036854775808,DZ l with
    | true,some m=>some ((x,p,q)::m)
    | _,_=>none)
   | none=>none)
  | _=>none
def Ca (n:KE):List KE→Option (List KE)
 | [] => some [n]
 | m::l=>match Nat.blt n.2.2 m.2.1 with
  | true=>some (n::m::l)
  | false=>match Nat.blt m.2.2 n.2.1 with
   | true=>(match Ca n l with|some k=>some (m::k)|none=>none)
   | false=>none
def yI:List KE→Option (List KE)
 | [] => some []
 | n::l=>match yI l with|some m=>Ca n m|none=>none
def Cb (n:Nat):List Nat→Option (List Nat)
 | [] => some [n]
 | m::l=>match Nat.blt n m with
  | true=>some (n::m::l)
  | false=>match Nat.blt m n with
   | true=>(match Cb n l with|some k=>some (m::k)|none=>none)
   | false=>none
def AZ:List Nat→Option (List Nat)
 | [] => some []
 | n::l=>match AZ l with|some m=>Cb n m|none=>none
def DW:List ME→List Nat
 | [] => []
 | e::l=>e.born::DW l
def FX (c:Nat):List Nat→Bool
 | [] => true
 | n::l=>match Nat.blt n c with|true=>FX c l|false=>false
def pY:List KE→List AV
 | [] => []
 | n::l=> .int .i64 n.1::pY l
def X4 (es:List ME) (clock:Nat):Option (List KE):=
 match DZ es with
 | none=>none
 | some ks=>match AZ (DW es),FX clock (DW es),Nat.ble ks.length 1000000 with
  | some _,true,true=>yI ks
  | _,_,_=>none
def MF (H:Heap) (b:Nat):Option AV:=
 match H.m.get b with
 | some (.cells v _ g closed _ own)=>(match Nat.beq g b,alive H.gw g closed,own,Nat.ble 1 v.n with
  | true,true,true,true=>some (v.get 0)
  | _,_,_,_=>none)
 | _=>none
def zvD (H:Heap) (l:List KE):List (AV×Heap):=
 match l with
 | [] => [(.cO,H)]
 | n::l=>match H with|⟨hm,nx,gw⟩=> [(.sl nx 0 (Nat.succ l.length) (.upto 0),Heap.alloc ⟨hm,nx,gw⟩ (kK (pY (n::l)) 1 nx))]
def HY (c:FuncId) (gs:List Nat) (f:FuncId) (args:List AV) (H:Heap):Option (List (AV×Heap)):=
 match Nat.beq f c with
 | false=>none
 | true=>match args with
  | [.func g [] [.ptr b 0]]=>(match Fw g gs,MF H b with
   | true,some .kI=>some [(.cO,H)]
   | true,some (.map m)=>(match H.iD m with
    | some (es,clock)=>(match X4 es clock with
     | some l=>some (zvD H l)
     | none=>none)
    | none=>none)
   | _,_=>none)
  | _=>none
section
variable {P:Program} {ρ:Val} {w0:Cx} {j:J} {H:Heap} {w w':World}
theorem Ol {n:Nat}: ∀ {l:List Nat},Fw n l=true→n∈l
 | [], h=>by cases h
 | m::l,h=>by
  unfold Fw at h;split at h
  ·rename_i hb;rw [bC hb];exact yav ..
  ·exact yam _ (Ol h)
theorem Inv.behind (h:Inv ρ w0 j H w) (hb:RowKit.Below w.heap.size w w'):Inv ρ w0 j H w':=by
 have hold: ∀n L,j n=some L→L.q=none→w'.heap[L.blk]? =w.heap[L.blk]? :=fun n L e q=>hb.block _ (h.blk n L e q);refine ⟨h.fr.then hb.os hb.output hb.tape hb.size (fun i hi _=>hb.block i hi),h.dom,fun n L e q=>yae (h.blk n L e q) hb.size,h.used,fun n L e=> ?_,h.sep,h.oD,h.mJ,h.jY,fun n L e q hn c t fr he=> ?_,h.kW,h.n0,h.jo,h.z0,h.sO (Sub.refl j) hb.size (fun b hb' _=>hb.block b hb') (fun b hb'=>Or.inl hb')⟩
 ·obtain ⟨o,h1,h2⟩:=h.obj n L e;exact ⟨o,h1,mH.grow (Sub.refl j) (hold n L e) h2⟩
 ·rw [hold n L e q] at he;exact h.fz n L e q hn c t fr he
theorem Inv.aac (h:Inv ρ w0 j H w) {n gb:Nat} {o:Obj} {ob:Go.Obj} {c:Nat} (hn:H.m.get n=some o) (hj:j n=none) (hnew:uM ρ j o ob c)
  (hg: ∀v e g cl sh,o= .cells v e g cl sh true→g=n∨ ∃Lg,j g=some Lg) (hgb:w.heap[gb]? =some ob) (h0:w0.w.heap.size≤gb) (hfree: ∀k L,j k=some L→L.q=none→L.blk≠gb) (hG:w0.G H.gs (iV j n ⟨gb,0,c,none⟩) w):
  Inv ρ w0 (iV j n ⟨gb,0,c,none⟩) H w:=by
 have hsub:=pR (L:=⟨gb,0,c,none⟩) hj;have hback: ∀k L,iV j n ⟨gb,0,c,none⟩ k=some L→(k=n∧L=⟨gb,0,c,none⟩)∨(k≠n∧j k=some L):=fun k L e=>by
  by_cases hk:k=n
  ·subst hk;rw [lC] at e;exact .inl ⟨rfl,(yaC e).symm⟩
  ·rw [lu _ _ hk] at e;exact .inr ⟨hk,e⟩
 have hown:w0.own gb:=Or.inl h0;refine ⟨h.fr,fun k L e=> ?_,fun k L e q=> ?_,h.used,fun k L e=> ?_,fun k m Lk Lm hkm e1 e2 q1 q2 hb=> ?_,h.oD,h.mJ,fun k L v e g cl sh e1 e2=> ?_,fun k L hjk hqk hi cs e fr he=> ?_,fun k L v e cl sh e1 e2=>(hback k L e1).elim (fun x=>x.2▸rfl) (fun x=>h.kW k L v e cl sh x.2 e2),?_,h.jo,h.z0,hG⟩
 ·rcases hback k L e with ⟨rfl,_⟩|⟨_,e⟩
  ·exact h.used _ _ hn
  ·exact h.dom k L e
 ·rcases hback k L e with ⟨_,rfl⟩|⟨_,e⟩
  ·exact (yap.1 hgb).1
  ·exact h.blk k L e q
 ·rcases hback k L e with ⟨rfl,rfl⟩|⟨_,e⟩
  ·refine ⟨o,hn,?_⟩;cases o with
   | cells v bq g cl sh own=>
    obtain ⟨ho,_,arr,e',rfl,h1,h2,h3⟩:=hnew;refine ⟨rfl,by rw [yaj ho];exact hown,fun _=>⟨arr,e',(0,0),hgb,by simpa using h1,⟨by simpa using h2.1,h2.2⟩,fun i hi=> ?_⟩⟩;obtain ⟨x,h4,h5⟩:=h3 i hi;exact ⟨x,by simpa using h4,h5.mono hsub⟩
   | map es clock=>
    obtain ⟨_,arr,rfl,h1⟩:=hnew;exact ⟨rfl,hown,rfl,arr,hgb,h1.mono hsub⟩
   | iter m since seen stepped=>
    obtain ⟨_,m',sa,rfl,h1,h2⟩:=hnew;refine ⟨rfl,hown,rfl,m',sa,hgb,h1,?_⟩;cases m with
    | none=>exact h2
    | some n=>obtain ⟨Lm,e,x⟩:=h2;exact ⟨Lm,hsub _ _ e,x⟩
   | qF es=>
    obtain ⟨_,arr,clock,es',rfl,h1,h2⟩:=hnew;exact ⟨rfl,hown,rfl,arr,clock,es',hgb,h1,h2.mono hsub⟩
   | dB=>exact hnew.elim
   | opq=>exact hnew.elim
   | gs=>exact hnew.elim
  ·obtain ⟨o',h1,h2⟩:=h.obj k L e;exact ⟨o',h1,mH.grow hsub (fun _=>rfl) h2⟩
 ·rcases hback k Lk e1 with ⟨rfl,rfl⟩|⟨_,e1⟩<;>rcases hback m Lm e2 with ⟨rfl,rfl⟩|⟨_,e2⟩
  ·exact absurd rfl hkm
  ·rename_i e2;exact absurd hb.symm (hfree m Lm e2 q2)
  ·rename_i e1 _;exact absurd hb (hfree k Lk (by assumption) q1)
  ·exact h.sep k m Lk Lm hkm (by assumption) (by assumption) q1 q2 hb
 ·rcases hback k L e1 with ⟨rfl,rfl⟩|⟨_,e1⟩
  ·rw [hn] at e2;rcases hg _ _ _ _ _ (yaC e2) with rfl|⟨Lg,e3⟩
   ·exact ⟨_,lC _ _ _⟩
   ·exact ⟨Lg,hsub _ _ e3⟩
  ·obtain ⟨Lg,e3⟩:=h.jY k L v e g cl sh e1 e2;exact ⟨Lg,hsub _ _ e3⟩
 ·rcases hback k L hjk with ⟨rfl,rfl⟩|⟨_,hjk⟩
  ·rw [hgb] at he;cases o with
   | cells v bq g cl sh own=>
    obtain ⟨_,_,arr,e',rfl,_⟩:=hnew;cases he;rfl
   | map es clock=>obtain ⟨_,arr,rfl,_⟩:=hnew;cases he
   | iter m since seen stepped=>obtain ⟨_,m',sa,rfl,_⟩:=hnew;cases he
   | qF es=>obtain ⟨_,arr,clock,es',rfl,_⟩:=hnew;cases he
   | dB=>exact hnew.elim
   | opq=>exact hnew.elim
   | gs=>exact hnew.elim
  ·exact h.fz k L hjk hqk hi cs e fr he
 ·by_cases hk:0=n
  ·rw [←hk] at hn;obtain ⟨kk,rfl⟩:=h.z0 _ hn;exact hnew.elim
  ·rw [lu _ _ hk];exact h.n0
theorem Inv.aai (h:Inv ρ w0 j H w) (hb:RowKit.Below w.heap.size w w') {n gb c:Nat} (hj:j n=none) (hgb:w.heap.size≤gb):w0.G H.gs (iV j n ⟨gb,0,c,none⟩) w':=
 h.sO (pR hj) hb.size (fun b hb' _=>hb.block b hb') (fun b hm=>by
  obtain ⟨k,L,e,q,rfl⟩:=hm;by_cases hk:k=n
  ·subst hk;rw [lC] at e;cases e;exact Or.inr hgb
  ·rw [lu _ _ hk] at e;exact Or.inl ⟨k,L,e,q,rfl⟩)
structure Ua (P:Program) (f:FuncId):Prop where
 enters:Enters P f
 runs: ∀w,Calls P f #[] w fun e w'=>e= .returned (.bool true)∧RowKit.Below w.heap.size w w'
def Z4:World:=default
theorem ztY {P:Program} (hmo:P.follows .mixedOrders=true) {gD:FuncId→List AV→Heap→Option (List (AV×Heap))} (hor: ∀w,nk P Val.zero (Cx.plain w) gD) {n:Nat} {f:FuncId} (h:(ev P gD n (.call f [] nX isTrue)).good=true):Ua P f:=
  ⟨((IL (ρ:=Val.zero) (w0:=Cx.plain Z4) (hor Z4) (fun n rec hg=>AL hmo hg) n).call f [] nX isTrue (Ob.yX h)).1,
   fun w=>zve (ρ:=Val.zero) hmo (hor w) (inv0 w) RL.nil (Ob.yX h)⟩
structure ztB (P:Program) (c g:FuncId):Prop where
 enters:Enters P c
 sorted: ∀(w:World) (Bm b:Nat) (es:Array MapEntry) (clock:Nat) (ks:List Int),Bm<w.heap.size→w.cell? ⟨Bm,0,none⟩=some (.map (some b))→w.heap[b]? =some (.map es clock)→MapKept.Stamped es clock→
  es.toList.map (·.key)=ks.map encZ→(∀x∈ks,(Lit.int .i64 x).wf=true)→ks.length≤1000000→
  Calls P c #[.func (.func g) #[] #[.pointer (some ⟨Bm,0,none⟩)]] w fun e w'=> ∃v ss t,e= .returned v∧ss.Perm ks∧w'.ownsRow w.heap.size t 1 v ss.length ((ss.mergeSort leI).map encZ)∧(v= .slice none 0 0↔ss= [])∧RowKit.Below w.heap.size w w'
 nil: ∀(w:World) (Bm:Nat),Bm<w.heap.size→w.cell? ⟨Bm,0,none⟩=some (.map none)→
  Calls P c #[.func (.func g) #[] #[.pointer (some ⟨Bm,0,none⟩)]] w fun e w'=>e= .returned (.slice none 0 0)∧RowKit.Below w.heap.size w w'
def jO (ρ:Val) (n:KE):Int:=n.1.den ρ
def vJ (ρ:Val) (n:KE):Prop:= ∃x:Nat,jO ρ n=Int.ofNat x∧n.2.1≤x∧x≤n.2.2∧n.2.2<9223372036854775808
theorem Zp: ∀ {es:List ME} {ks:List KE} {xs:List MapEntry},DZ es=some ks→RM ρ j es xs→xs.map (·.key)=(ks.map (jO ρ)).map encZ∧(∀n∈ks,vJ ρ n)
 | [], ks,xs,h,hr=>by
  have e:xs= []:=hr;subst e;unfold DZ at h;cases h;exact ⟨rfl,by simp⟩
 | e::es,ks,xs,h,hr=>by
  obtain ⟨x,xs,rfl,hk,_,_,hr⟩:=hr;unfold DZ at h;split at h
  case h_2=>cases h
  rename_i n hkey;split at h
  case h_2=>cases h
  rename_i p q hb;split at h
  case h_2=>cases h
  rename_i m hlt hm;cases h;obtain ⟨h1,h2⟩:=Zp hm hr;rw [hkey] at hk;have hk:x.key= .int .i64 (n.den ρ):=hk;rw [yaF] at hlt;obtain ⟨y,e1,e2,e3⟩:=wh (ρ:=ρ) hb;refine ⟨by simp only [yaJ,h1,hk];rfl,fun z hz=> ?_⟩;rcases yad.1 hz with rfl|hz
  ·exact ⟨y,e1,e2,e3,hlt⟩
  ·exact h2 z hz
theorem zFh {n:KE} (h:vJ ρ n):(Lit.int .i64 (jO ρ n)).wf=true:=by
 obtain ⟨x,e,_,h2,h3⟩:=h;rw [e];simp [Lit.wf,IntKind.min,IntKind.max,IntKind.signed,IntKind.bits];omega
theorem Zi: ∀ {es:List ME} {xs:List MapEntry},RM ρ j es xs→xs.map (·.born)=DW es
 | [], xs,hr=>by have e:xs= []:=hr;subst e;rfl
 | e::es,xs,hr=>by
  obtain ⟨x,xs,rfl,_,_,hb,hr⟩:=hr;simp only [yaJ,DW,Zi hr,hb]
theorem ztA {c:Nat}: ∀ {l:List Nat},FX c l=true→ ∀x∈l,x<c
 | [], _,x,hx=>by cases hx
 | n::l,h,x,hx=>by
  unfold FX at h;split at h
  ·rename_i hb;rw [yaF] at hb;rcases yad.1 hx with rfl|hx
   ·exact hb
   ·exact ztA h x hx
  ·cases h
theorem zoT {n:Nat}: ∀ {l m:List Nat},Cb n l=some m→l.Pairwise (· < ·)→m.Pairwise (· < ·)∧m.Perm (n::l)
 | [], m,h,_=>by unfold Cb at h;cases h;exact ⟨List.pairwise_singleton _ _,yck _⟩
 | x::l,m,h,hl=>by
  unfold Cb at h;obtain ⟨h1,h2⟩:=ya9.1 hl;split at h
  ·rename_i hb;rw [yaF] at hb;cases h;refine ⟨ya9.2 ⟨fun y hy=> ?_,hl⟩,yck _⟩;rcases yad.1 hy with rfl|hy
   ·exact hb
   ·have:=h1 y hy;omega
  ·split at h
   ·rename_i hb;rw [yaF] at hb;split at h
    ·rename_i k hk;cases h;obtain ⟨h3,h4⟩:=zoT hk h2;refine ⟨ya9.2 ⟨fun y hy=> ?_,h3⟩,(List.Perm.cons x h4).trans (List.Perm.swap n x l)⟩;rcases yad.1 (h4.mem_iff.1 hy) with rfl|hy
     ·exact hb
     ·exact h1 y hy
    ·cases h
   ·cases h
theorem X5: ∀ {l m:List Nat},AZ l=some m→m.Pairwise (· < ·)∧m.Perm l
 | [], m,h=>by unfold AZ at h;cases h;exact ⟨List.Pairwise.nil,yck _⟩
 | n::l,m,h=>by
  unfold AZ at h;split at h
  ·rename_i k hk;obtain ⟨h1,h2⟩:=X5 hk;obtain ⟨h3,h4⟩:=zoT h h1;exact ⟨h3,h4.trans (List.Perm.cons n h2)⟩
  ·cases h
theorem zpJ {l m:List Nat} (h:AZ l=some m):l.Nodup:=by
 obtain ⟨h1,h2⟩:=X5 h;exact (h2.nodup_iff).1 (h1.imp fun hlt=>by omega)
theorem zoU {n:KE} (hn:vJ ρ n): ∀ {l m:List KE},Ca n l=some m→(∀k∈l,vJ ρ k)→(l.map (jO ρ)).Pairwise (· < ·)→(m.map (jO ρ)).Pairwise (· < ·)∧m.Perm (n::l)
 | [], m,h,_,_=>by unfold Ca at h;cases h;exact ⟨List.pairwise_singleton _ _,yck _⟩
 | x::l,m,h,hk,hl=>by
  unfold Ca at h;obtain ⟨h1,h2⟩:=ya9.1 (show (jO ρ x::l.map (jO ρ)).Pairwise (· < ·) from hl);obtain ⟨a,ea,a1,a2,_⟩:=hn;obtain ⟨b,eb,b1,b2,_⟩:=hk x (yav ..);have hk': ∀k∈l,vJ ρ k:=fun k h=>hk k (yam _ h);split at h
  ·rename_i hb;rw [yaF] at hb;cases h;have hlt:jO ρ n<jO ρ x:=by rw [ea,eb];exact Int.ofNat_lt.2 (by omega)
   refine ⟨ya9.2 ⟨fun y hy=> ?_,hl⟩,yck _⟩;rcases yad.1 hy with rfl|hy
   ·exact hlt
   ·exact Int.lt_trans hlt (h1 y hy)
  ·split at h
   ·rename_i hb;rw [yaF] at hb;split at h
    ·rename_i k hkk;cases h;obtain ⟨h3,h4⟩:=zoU ⟨a,ea,a1,a2,by assumption⟩ hkk hk' h2;have hlt:jO ρ x<jO ρ n:=by rw [ea,eb];exact Int.ofNat_lt.2 (by omega)
     refine ⟨ya9.2 ⟨fun y hy=> ?_,h3⟩,(List.Perm.cons x h4).trans (List.Perm.swap n x l)⟩;rcases yad.1 ((h4.map (jO ρ)).mem_iff.1 hy) with rfl|hy
     ·exact hlt
     ·exact h1 y hy
    ·cases h
   ·cases h
theorem GY: ∀ {l m:List KE},yI l=some m→(∀k∈l,vJ ρ k)→(m.map (jO ρ)).Pairwise (· < ·)∧m.Perm l
 | [], m,h,_=>by unfold yI at h;cases h;exact ⟨List.Pairwise.nil,yck _⟩
 | n::l,m,h,hk=>by
  unfold yI at h;split at h
  ·rename_i k hkk;obtain ⟨h1,h2⟩:=GY hkk (fun x hx=>hk x (yam _ hx));obtain ⟨h3,h4⟩:=zoU (hk n (yav ..)) h (fun x hx=>hk x (yam _ (h2.mem_iff.1 hx))) h1;exact ⟨h3,h4.trans (List.Perm.cons n h2)⟩
  ·cases h
theorem zpL {l m:List KE} (h:yI l=some m) (hk: ∀k∈l,vJ ρ k):(l.map (jO ρ)).Nodup:=by
 obtain ⟨h1,h2⟩:=GY (ρ:=ρ) h hk;exact ((h2.map (jO ρ)).nodup_iff).1 (h1.imp fun hlt=>by omega)
theorem zpK {l m:List KE} (h:yI l=some m) (hk: ∀k∈l,vJ ρ k) {ss:List Int} (hp:ss.Perm (l.map (jO ρ))):ss.mergeSort leI=m.map (jO ρ):=by
 obtain ⟨h1,h2⟩:=GY (ρ:=ρ) h hk;have tr: ∀a b c:Int,leI a b=true→leI b c=true→leI a c=true:=fun a b c h1 h2=>by simp only [leI,yat] at*;exact Int.le_trans h1 h2
 have tot: ∀a b:Int,(leI a b||leI b a)=true:=fun a b=>by simp only [leI,ydH,yat];exact Int.le_total a b
 refine List.Perm.eq_of_pairwise (le:=fun a b=>leI a b=true) (fun a b _ _ h1 h2=> ?_) (List.pairwise_mergeSort tr tot ss) ?_ (((List.mergeSort_perm ss leI).trans hp).trans (h2.map (jO ρ)).symm)
 ·simp only [leI,yat] at h1 h2;exact Int.le_antisymm h1 h2
 ·refine h1.imp fun hlt=> ?_;simp only [leI,yat];exact Int.le_of_lt hlt
theorem zsO: ∀(l:List KE),RL ρ j (pY l) ((l.map (jO ρ)).map encZ)
 | [] => rfl
 | n::l=>⟨_,_,rfl,rfl,zsO l⟩
theorem VU: ∀(l:List KE),(pY l).length=l.length
 | [] => rfl
 | n::l=>by simp [pY,VU l]
theorem zuN {k:TypeId} (hk:P.underlying k=some (.int .i64)) {b:Nat} {es:Array MapEntry} {clock:Nat} {ks:List Int} (hb:w.heap[b]? =some (.map es clock)) (hst:MapKept.Stamped es clock)
  (hkeys:es.toList.map (·.key)=ks.map encZ) (hwf: ∀x∈ks,(Lit.int .i64 x).wf=true) (hlen:ks.length≤1000000):
  ∃ D0:DataW Unit,w.ownsMap P k (fun _=>some (.nil,[])) b es.size D0∧(intKeys D0).Perm ks∧Maps.size D0=ks.length:=by
 have hl:es.toList.length=ks.length:=by have:=yaI List.length hkeys;simpa using this
 have hkey: ∀x∈es.toList,∃a,x.key=encZ a∧(Lit.int .i64 a).wf=true:=fun x hx=>by
  have:x.key∈ks.map encZ:=by rw [←hkeys];exact ycN hx
  obtain ⟨a,ha,e⟩:=ya2.1 this;exact ⟨a,e.symm,hwf a ha⟩
 have hrd: ∀x∈es.toList,∀a,x.key=encZ a→(Lit.int .i64 a).wf=true→WideElems.rd P k (fun _=>some ((.nil:DataW Unit),[])) x=some (.int .i64 a,.nil):=fun x _ a e hw=>by
  unfold WideElems.rd;rw [e,Maps.keyOf_int_mk hk hw];rfl
 refine ⟨_,⟨es,clock,hb,⟨?_,hst,fun x hx=> ?_⟩,yab _,rfl⟩,?_,?_⟩
 ·rw [←yba,hl];unfold maxLen;omega
 ·obtain ⟨a,e,hw⟩:=hkey x hx;exact ⟨_,hrd x hx a e hw⟩
 ·have e:(es.toList.map (WideElems.rg P k (fun _=>some ((.nil:DataW Unit),[])))).map (fun p=>Go.intOf p.1)=ks:=by
   have unz: ∀l:List Int,(l.map encZ).map RowKit.intOf=l:=fun l=>by
    rw [ycR]
    conv=>rhs;rw [←List.map_id l]
    rfl
   rw [←unz ks,←hkeys,ycR,ycR];refine ycO fun x hx=> ?_;obtain ⟨a,e,hw⟩:=hkey x hx;simp only [Function.comp_apply,WideElems.rg,hrd x hx a e hw,yb0,e];rfl
  have h:=(WideShapes.sorted_perm (es.toList.map (WideElems.rg P k (fun _=>some ((.nil:DataW Unit),[]))))).map (fun p=>Go.intOf p.1);rw [e] at h;exact h
 ·show List.length _=_;rw [(WideShapes.sorted_perm _).length_eq,ybs,hl]
theorem zmP {c:FuncId} {gs:List Nat} (h: ∀g∈gs,ztB P c g):nk P ρ w0 (HY c gs):=by
 intro f args H l hl;unfold HY at hl;split at hl
 ·cases hl
 rename_i hfc;have hfc:=bC hfc;subst hfc;split at hl
 case h_2=>cases hl
 rename_i g b;have start: ∀ {k:K} {j:J} {w:World} {vals:List Value} {x:AV},Inv ρ w0 j H w→RL ρ j [.func g [] [.ptr b 0]] vals→MF H b=some x→
   ∃ L u,j b=some L∧vals= [.func (.func g) #[] #[.pointer (some ⟨L.blk,0,none⟩)]]∧L.blk<w.heap.size∧w.cell? ⟨L.blk,0,none⟩=some u∧R ρ j x u:=by
  intro k j w vals x hi hv rD;obtain ⟨u,m,rfl,hu,hm⟩:=hv;have e:m= []:=hm;subst e;obtain ⟨l',m',rfl,hl',hm'⟩:=hu;have e:l'= []:=hl';subst e;obtain ⟨p,m2,rfl,hp,hm2⟩:=hm';have e:m2= []:=hm2;subst e;obtain ⟨L,hj,rfl⟩:=hp;unfold MF at rD;split at rD
  case h_2=>cases rD
  rename_i v bq g' closed sh own hget;split at rD
  case h_2=>cases rD
  rename_i hg hal hone;cases rD;have hg:=bC hg;subst hg;have hoff:=hi.kW _ L v bq closed sh hj hget;obtain ⟨o,h1,h2⟩:=hi.obj _ L hj;rw [hget] at h1;cases h1;obtain ⟨arr,e,fr,h3,_,_,h5⟩:=h2.2.2 hal;obtain ⟨y,h6,h7⟩:=h5 0 (yal hone);rw [hoff] at h6;refine ⟨L,y,hj,by rw [hoff],(yap.1 h3).1,?_,h7⟩;simp [World.cell?,h3];simpa using h6
 split at hl
 ·rename_i hm rD;cases hl;have ho:=h g (Ol hm);refine ⟨ho.enters,fun k hk j w vals hi hv=> ?_⟩;obtain ⟨L,u,hj,rfl,hlt,hcell,hu⟩:=start (k:=k) hi hv rD;have e:u= .map none:=hu;subst e;refine yaq (ho.nil w L.blk hlt hcell) fun e w' ⟨he,hb⟩=>⟨_,he,.cO,H,j,rfl,hi.behind hb,St.refl j H,hk⟩
 ·rename_i m hm rD;have ho:=h g (Ol hm);split at hl
  case h_2=>cases hl
  rename_i es clock hmap;split at hl
  case h_2=>cases hl
  rename_i ls vz;cases hl;refine ⟨ho.enters,fun k hk j w vals hi hv=> ?_⟩;obtain ⟨L,u,hj,rfl,hlt,hcell,hu⟩:=start (k:=k) hi hv rD;obtain ⟨Lm,hjm,rfl⟩:=hu;obtain ⟨arr,harr,hrm⟩:=hi.iD hjm hmap;unfold X4 at vz;split at vz
  ·cases vz
  rename_i ks hks;split at vz
  case h_2=>cases vz
  rename_i bs hbs hall hlen;obtain ⟨hkeys,hok⟩:=Zp hks hrm;have hwf: ∀x∈ks.map (jO ρ),(Lit.int .i64 x).wf=true:=fun x hx=>by
   obtain ⟨k,hk,rfl⟩:=ya2.1 hx;exact zFh (hok k hk)
  have hborn:=Zi hrm;have hnd:=zpL (ρ:=ρ) vz hok;have hst:MapKept.Stamped arr clock:=by
   refine ⟨fun x hx=>ztA hall _ (by rw [←hborn];exact ycN hx),by rw [hborn];exact zpJ hbs,?_⟩;rw [hkeys];exact ycA.2 (hnd.imp fun hne e=>hne (encZ_inj e))
  refine yaq (ho.sorted w L.blk Lm.blk arr clock (ks.map (jO ρ)) hlt hcell harr hst hkeys hwf (by simpa using yal hlen)) fun e w' ⟨v,ss,t,he,hperm,hrow,hnil,hb⟩=> ?_;refine ⟨v,he,?_⟩;have hsort:=zpK (ρ:=ρ) vz hok hperm;have RP:ss.length=ls.length:=by rw [hperm.length_eq,ybs,(GY (ρ:=ρ) vz hok).2.length_eq]
  rw [hsort,RP] at hrow;have hi':=hi.behind hb;cases ls with
  | nil=>
   have e:v= .slice none 0 0:=hnil.2 (List.eq_nil_of_length_eq_zero (by rw [RP];rfl));subst e;exact ⟨.cO,H,j,rfl,hi',St.refl j H,hk⟩
  | cons n l=>
   rcases hrow.2 with ⟨_,h0⟩|⟨gb,cap,cur,rfl,hbase,hgb,r1,r2,r3,r4⟩
   ·simp at h0
   have hk:Ob.den ρ (k (.sl H.nx 0 (Nat.succ l.length) (.upto 0)) (H.alloc (kK (pY (n::l)) 1 H.nx))):=hk;have hj0:j H.nx=none:=hi.fresh;have Rm:(pY (n::l)).length=l.length+1:=by rw [VU];rfl
   simp only [ya6,Nat.mul_one] at r1 r3 r4;have hext:Inv ρ w0 j (H.alloc (kK (pY (n::l)) 1 H.nx)) w':=hi'.extend _ (fun v e g t sh ow iK=>by unfold kK at iK;cases iK);have hget:(H.alloc (kK (pY (n::l)) 1 H.nx)).m.get H.nx=some (kK (pY (n::l)) 1 H.nx):=by rw [Heap.alloc_eq];exact T.get_set_same _ _ _
   have hnew:uM ρ j (kK (pY (n::l)) 1 H.nx) (.cells cur t (0,0)) cap:=by
    refine ⟨rfl,rfl,cur,t,rfl,by rw [Vec.lQ,Rm];omega,⟨by omega,fun _=>by rw [Vec.lQ,Rm];omega⟩,fun i hin=> ?_⟩;rw [Vec.lQ] at hin;rw [Vec.sN _ i hin];obtain ⟨x,h1,h2⟩:=(zsO (ρ:=ρ) (j:=j) (n::l)).get i _ (yao hin);refine ⟨x,?_,h2⟩;rw [←r4,ybw (by omega)] at h1;simpa using h1
   refine ⟨.sl H.nx 0 (Nat.succ l.length) (.upto 0),_,iV j H.nx ⟨gb,0,cap,none⟩,⟨_,lC _ _ _,⟨by show 0+(l.length+1)≤cap;omega,by show 0<cap;omega⟩,rfl⟩,
    hext.aac hget hj0 hnew (fun v e g cl sh iK=>by unfold kK at iK;cases iK;exact .inl rfl) hgb (yaw hi.fr.size hbase) (fun q Lq e hqq he=>by have:=hi.blk q Lq e hqq;omega) (by rw [show (H.alloc (kK (pY (n::l)) 1 H.nx)).gs=H.gs from by rw [Heap.alloc_eq];exact Em H _ (by have:=hi.jo;omega)];exact hi.aai hb hj0 hbase),
    ⟨pR hj0,fun q Lq e e0=> ?_,(St.extend hi' _).keep,(St.extend hi' _).nx⟩,hk⟩
   by_cases hq:q=H.nx
   ·omega
   ·rw [lu _ _ hq,e0] at e;cases e
 ·cases hl
end
end Go.Dw
namespace Go.Proofs
open Go.Shelf Go.RowKit Go.Maps Go.Sort
def Tryz.Nr:Go.Shelf.Ren:=⟨fun|7=>65|10=>90|n=>n,fun|23=>117|26=>3|3=>122|28=>131|0=>0|27=>130|33=>138|4=>4|n=>n,fun|n=>n⟩
theorem Tryz.zxU:Go.Proofs.SlLaysZI.n7 prog Nr:= {
 mixed:=by kernel_rfl
 f7:=⟨f65.name,by decide,func65.trans (yaI some (by kernel_rfl))⟩
 f10:=⟨f90.name,by decide,func90.trans (yaI some (by kernel_rfl))⟩
 t0:=underlying0
 a0:=isAgg0
 z0:=sizeOf0
 v0:=zeroValue0
 t4:=underlying4
 a4:=isAgg4
 z4:=sizeOf4
 v4:=zeroValue4
 t23:=underlying117
 a23:=isAgg117
 z23:=sizeOf117
 v23:=zeroValue117
 t26:=underlying3
 a26:=isAgg3
 z26:=sizeOf3
 v26:=zeroValue3
 t27:=underlying130
 a27:=isAgg130
 z27:=sizeOf130
 v27:=zeroValue130
 t28:=underlying131
 a28:=isAgg131
 z28:=sizeOf131
 v28:=zeroValue131
 t33:=underlying138
 a33:=isAgg138
 z33:=sizeOf138
 v33:=zeroValue138 }
def Tryz.Wy:Go.Shelf.Ren:=⟨fun|6=>64|8=>88|9=>89|11=>116|13=>118|12=>117|23=>150|24=>151|14=>141|15=>142|16=>143|17=>144|18=>145|19=>146|20=>147|21=>148|22=>149|25=>163|26=>164|27=>165|28=>166|29=>167|30=>168|31=>176|n=>n,fun|26=>3|28=>131|24=>37|0=>0|3=>3|37=>152|48=>41|50=>29|4=>4|40=>198|39=>197|45=>203|5=>5|9=>9|51=>215|55=>219|57=>226|58=>150|33=>138|n=>n,fun|n=>n⟩
theorem Tryz.zvE:Go.Proofs.SlLaysZI.n6 prog Wy:= {
 mixed:=by kernel_rfl
 f6:=⟨f64.name,by decide,func64.trans (yaI some (by kernel_rfl))⟩
 f8:=⟨f88.name,by decide,func88.trans (yaI some (by kernel_rfl))⟩
 f11:=⟨f116.name,by decide,func116.trans (yaI some (by kernel_rfl))⟩
 t0:=underlying0
 a0:=isAgg0
 z0:=sizeOf0
 v0:=zeroValue0
 t24:=underlying37
 a24:=isAgg37
 z24:=sizeOf37
 v24:=zeroValue37
 t26:=underlying3
 a26:=isAgg3
 z26:=sizeOf3
 v26:=zeroValue3
 t28:=underlying131
 a28:=isAgg131
 z28:=sizeOf131
 v28:=zeroValue131
 i26:=by kernel_rfl }
def Tryz.zvF:Go.Shelf.Ren:=⟨fun|5=>89|8=>118|7=>117|19=>150|20=>151|10=>141|11=>142|12=>143|13=>144|14=>145|15=>146|16=>147|17=>148|18=>149|30=>163|31=>164|32=>165|33=>166|34=>167|35=>168|40=>176|n=>n,fun|23=>37|25=>3|3=>3|32=>152|22=>37|0=>0|44=>41|46=>29|4=>4|36=>198|35=>197|41=>203|5=>5|9=>9|53=>215|57=>219|63=>226|64=>150|n=>n,fun|n=>n⟩
theorem Tryz.Vj:Go.Proofs.SlLaysM.n5 prog zvF:= {
 mixed:=by kernel_rfl
 f5:=⟨f89.name,by decide,func89.trans (yaI some (by kernel_rfl))⟩
 f7:=⟨f117.name,by decide,func117.trans (yaI some (by kernel_rfl))⟩
 f8:=func118.trans (yaI some (by kernel_rfl))
 f10:=⟨f141.name,by decide,func141.trans (yaI some (by kernel_rfl))⟩
 f11:=⟨f142.name,by decide,func142.trans (yaI some (by kernel_rfl))⟩
 f12:=⟨f143.name,by decide,func143.trans (yaI some (by kernel_rfl))⟩
 f13:=⟨f144.name,by decide,func144.trans (yaI some (by kernel_rfl))⟩
 f14:=⟨f145.name,by decide,func145.trans (yaI some (by kernel_rfl))⟩
 f15:=⟨f146.name,by decide,func146.trans (yaI some (by kernel_rfl))⟩
 f16:=⟨f147.name,by decide,func147.trans (yaI some (by kernel_rfl))⟩
 f17:=⟨f148.name,by decide,func148.trans (yaI some (by kernel_rfl))⟩
 f18:=⟨f149.name,by decide,func149.trans (yaI some (by kernel_rfl))⟩
 f19:=func150.trans (yaI some (by kernel_rfl))
 f20:=func151.trans (yaI some (by kernel_rfl))
 f30:=⟨f163.name,by decide,func163.trans (yaI some (by kernel_rfl))⟩
 f31:=func164.trans (yaI some (by kernel_rfl))
 f32:=func165.trans (yaI some (by kernel_rfl))
 f33:=⟨f166.name,by decide,func166.trans (yaI some (by kernel_rfl))⟩
 f34:=⟨f167.name,by decide,func167.trans (yaI some (by kernel_rfl))⟩
 f35:=⟨f168.name,by decide,func168.trans (yaI some (by kernel_rfl))⟩
 f40:=⟨f176.name,by decide,func176.trans (yaI some (by kernel_rfl))⟩
 t0:=underlying0
 a0:=isAgg0
 z0:=sizeOf0
 v0:=zeroValue0
 t3:=underlying3
 a3:=isAgg3
 z3:=sizeOf3
 v3:=zeroValue3
 t4:=underlying4
 a4:=isAgg4
 z4:=sizeOf4
 v4:=zeroValue4
 t5:=underlying5
 a5:=isAgg5
 z5:=sizeOf5
 v5:=zeroValue5
 t9:=underlying9
 a9:=isAgg9
 z9:=sizeOf9
 v9:=zeroValue9
 t22:=underlying37
 a22:=isAgg37
 z22:=sizeOf37
 v22:=zeroValue37
 t23:=underlying37
 a23:=isAgg37
 z23:=sizeOf37
 v23:=zeroValue37
 t25:=underlying3
 a25:=isAgg3
 z25:=sizeOf3
 v25:=zeroValue3
 t32:=underlying152
 a32:=isAgg152
 z32:=sizeOf152
 v32:=zeroValue152
 t35:=underlying197
 a35:=isAgg197
 z35:=sizeOf197
 v35:=zeroValue197
 t36:=underlying198
 a36:=isAgg198
 z36:=sizeOf198
 v36:=zeroValue198
 t41:=underlying203
 a41:=isAgg203
 z41:=sizeOf203
 v41:=zeroValue203
 t44:=underlying41
 a44:=isAgg41
 z44:=sizeOf41
 v44:=zeroValue41
 t46:=underlying29
 a46:=isAgg29
 z46:=sizeOf29
 v46:=zeroValue29
 t53:=underlying215
 a53:=isAgg215
 z53:=sizeOf215
 v53:=zeroValue215
 t57:=underlying219
 a57:=isAgg219
 z57:=sizeOf219
 v57:=zeroValue219
 t63:=underlying226
 a63:=isAgg226
 z63:=sizeOf226
 v63:=zeroValue226
 t64:=underlying150
 a64:=isAgg150
 z64:=sizeOf150
 v64:=zeroValue150 }
theorem Tryz.UM (m:Nat):AnyZI.SortsIn prog Wy Fence.wide m:=
  ⟨fun blk off cap ss W hH hblk hsz=>ydE.2 (AnyM.slices_Sort_int Vj blk off cap ss W hH hblk hsz),
   fun p cap W=>ydE.2 (AnyM.slices_Sort_int_none Vj p cap W)⟩
theorem Tryz.Tq:Dw.ztB prog 64 90:=
  ⟨⟨f64,_,func64,rfl,by decide⟩,
   fun w Bm b es clock ks hBm hm hb hst hkeys hwf hlen=>by
    obtain ⟨D0,hown,hperm,hsize⟩:=Dw.zuN (P:=prog) underlying3 hb hst hkeys hwf hlen;have hseq:=AnyZI.keys_gives (ρ:=Nr) { zxU with } Fence.wide 2 trivial rfl (by omega) Bm b es.size D0 w hBm hm hown;have cS:=AnyZI.sorted_in zvE Fence.wide 5 trivial trivial trivial trivial rfl (by omega) (UM _) (enters_of func89 (by kernel_rfl) rfl) 90 #[.pointer (some ⟨Bm,0,none⟩)] trivial (enters_of func90 (by kernel_rfl) rfl) _ _ (by rw [hsize];unfold maxLen;omega) (by rw [hsize];omega) _ hseq;exact (ydE.1 cS).mono fun e w' ⟨v,ss,he,hS,hrow,hnil,hb⟩=>⟨v,ss,_,he,hS.trans hperm,hrow,hnil,hb⟩,
   fun w Bm hBm hm=>by
    have hseq:=AnyZI.keys_gives_nil (ρ:=Nr) { zxU with } Fence.wide 2 trivial rfl Bm w hBm hm;have cS:=AnyZI.sorted_in zvE Fence.wide 5 trivial trivial trivial trivial rfl (by omega) (UM _) (enters_of func89 (by kernel_rfl) rfl) 90 #[.pointer (some ⟨Bm,0,none⟩)] trivial (enters_of func90 (by kernel_rfl) rfl) _ 0 (yaE _) (by omega) _ hseq;exact (ydE.1 cS).mono fun e w' ⟨v,ss,he,hS,hrow,hnil,hb⟩=>⟨by rw [he,hnil.2 hS],hb⟩⟩
theorem Tryz.zCh {ρ:Dw.Val} {w:Dw.Cx}:Dw.nk prog ρ w (Dw.HY 64 [90]):=Dw.zmP fun g hg=>by
 simp only [yad,yag,yaB] at hg;rcases hg with rfl
 ·exact Tq
open Go.Dw
theorem Tryz.zzl {w:World} {base base':Nat} {e:TypeId} {size:Nat} {v:Value} {n:Nat} {xs:List Value} (h:w.ownsRow base e size v n xs) (hb:base'≤base):w.ownsRow base' e size v n xs:=by
 rcases h.2 with h0|⟨g,cap,cur,hv,hg,hr⟩
 ·exact ⟨h.1,Or.inl h0⟩
 ·exact ⟨h.1,Or.inr ⟨g,cap,cur,hv,yaw hb hg,hr⟩⟩
theorem Tryz.zoQ: ∀ {l:List MapEntry},(∀e∈l,∃n,e.key= .int .i64 n)→ ∃ks:List Int,l.map (·.key)=ks.map encZ∧ ∀x,x∈ks↔ ∃e∈l,e.key= .int .i64 x
 | [], _=>⟨[],rfl,fun x=>by simp⟩
 | e::l,h=>by
  obtain ⟨ks,h1,h2⟩:=zoQ fun e he=>h e (yam _ he);obtain ⟨n,hn⟩:=h e yav;refine ⟨n::ks,by rw [yaJ,yaJ,h1,hn],fun x=> ?_⟩;rw [yad,h2];constructor
  ·rintro (rfl|⟨e',h3,h4⟩)
   ·exact ⟨e,yav,hn⟩
   ·exact ⟨e',yam _ h3,h4⟩
  ·rintro ⟨e',h3,h4⟩;rcases yad.1 h3 with rfl|h3
   ·left;rw [hn] at h4;cases h4;rfl
   ·exact .inr ⟨e',h3,h4⟩
end Go.Proofs
namespace Go.Dw
open Go.RowKit Go.WideShapes Go.ChangeShapes
theorem Tx {H:Type} {enc:TypeId×Value→H} {P:Program} {W W':World} (hl:laidOutB P=true) (hb:Below W.heap.size W W') {sp:Nat→Bool}: ∀ {ts:List TypeId} {vs:List Value} {ds:List (DataW H)} {ps:List MemPlace},
  (∀ t∈ts,P.readableRec t=true∧t<P.types.size)→DataW.TrodAll enc P W 0 (fun _=>true) true ts vs ds ps→(∀x∈ps,x.block<W.heap.size)→(∀x∈ps,sp x.block=true)→DataW.TrodAll enc P W' 0 sp true ts vs ds ps
 | [], vs,ds,ps,_,h,_,_=>by
  obtain ⟨rfl,rfl,rfl⟩:=trodAll_nil h;exact trodAll_mk0
 | t::ts,vs,ds,ps,ht,h,hlt,hsp=>by
  obtain ⟨v,vs',d,ds',p,q,rfl,rfl,rfl,h0,h1⟩:=trodAll_cons h;have ht0:=ht t (yav ..);refine trodAll_cons_mk (WideElems.Trod_stays hl ht0.1 ht0.2 h0 (fun x hx=>hb.same (hlt x (ych _ hx))) (fun x hx=>hsp x (ych _ hx))) ?_;exact Tx hl hb (fun u hu=>ht u (yam _ hu)) h1 (fun x hx=>hlt x (ycc _ hx)) (fun x hx=>hsp x (ycc _ hx))
theorem abj {P:Program} {w:World} {r:Reach} {base:Nat} {t b:TypeId} {fs:Array Field} {v:Value} (ht:P.underlying t=some (.struct fs)) (hn:P.cellsOf t=3) (hc:P.cellTypes P.depth t=some [b,b,b])
  (hb:P.underlying b=some .bool) (h:Value.okWide P w r base t v): ∃x y z,v= .agg #[.bool x,.bool y,.bool z]:=by
 simp only [Value.okWide,ht] at h;obtain ⟨cs,rfl,hsz,ts,hts,_,hcell⟩:=h;rw [hc] at hts;cases hts;rw [hn] at hsz;have cell: ∀i v,i<3→cs[i]? =some v→ ∃x,v= .bool x:=fun i v hi hv=>by
  obtain ⟨u,hu,hok⟩:=hcell i v hv;have e:u=b:=by
   have hi':i% [b,b,b].length=i:=ybd (by simpa using hi);rw [hi'] at hu
   match i,hi with
   | 0,_=>simpa using hu.symm
   | 1,_=>simpa using hu.symm
   | 2,_=>simpa using hu.symm
  subst e;simp only [Cell.okWide,hb] at hok;cases v<;>simp_all [Cell.ok]
 obtain ⟨x,hx⟩:=cell 0 cs[0] (by omega) (yaL (by omega));obtain ⟨y,hy⟩:=cell 1 cs[1] (by omega) (yaL (by omega));obtain ⟨z,hz⟩:=cell 2 cs[2] (by omega) (yaL (by omega));refine ⟨x,y,z,?_⟩;congr 1;apply Array.ext
 ·rw [hsz];rfl
 ·intro i h1 h2
  match i,h2 with
  | 0,_=>exact hx
  | 1,_=>exact hy
  | 2,_=>exact hz
end Go.Dw
namespace Go.Dw
open Go.RowKit
mutual
def yV:AV→Option Value
 | .bool (.lit b)=>some (.bool b)
 | .int k (.lit n)=>some (.int k n)
 | .jm=>some (.pointer none)
 | .cO=>some (.slice none 0 0)
 | .agg l=>match uV l with|some m=>some (.agg m.toArray)|none=>none
 | .ay l=>match uV l with|some m=>some (.tuple m.toArray)|none=>none
 | _=>none
def uV:List AV→Option (List Value)
 | [] => some []
 | a::l=>match yV a,uV l with|some v,some m=>some (v::m)|_,_=>none
end
mutual
theorem Qg {ρ:Val} {j:J}: ∀ {a:AV} {x u:Value},yV a=some x→R ρ j a u→u=x
 | .bool (.lit b),x,u,h,r=>by cases h;exact r
 | .int k (.lit n),x,u,h,r=>by cases h;exact r
 | .jm,x,u,h,r=>by cases h;exact r
 | .cO,x,u,h,r=>by cases h;exact r
 | .agg l,x,u,h,r=>by
  obtain ⟨m,rfl,hm⟩:=r;rw [yV] at h;cases hl:uV l with
  | none=>rw [hl] at h;cases h
  | some m'=>rw [hl] at h;cases h;rw [JS hl hm]
 | .ay l,x,u,h,r=>by
  obtain ⟨m,rfl,hm⟩:=r;rw [yV] at h;cases hl:uV l with
  | none=>rw [hl] at h;cases h
  | some m'=>rw [hl] at h;cases h;rw [JS hl hm]
theorem JS {ρ:Val} {j:J}: ∀ {l:List AV} {m us:List Value},uV l=some m→RL ρ j l us→us=m
 | [], m,us,h,r=>by cases h;exact r
 | a::l,m,us,h,r=>by
  obtain ⟨v,m',rfl,hv,hm⟩:=r;rw [uV] at h;cases ha:yV a with
  | none=>rw [ha] at h;cases h
  | some x=>
   cases hl:uV l with
   | none=>rw [ha,hl] at h;cases h
   | some y=>rw [ha,hl] at h;cases h;rw [Qg ha hv,JS hl hm]
end
def Qr (a b:Bool):Bool:=match a with|true=>b|false=>match b with|true=>false|false=>true
mutual
def EM:AV→AV→Bool
 | .bool (.lit a),.bool (.lit b)=>Qr a b
 | .int k (.lit a),.int k' (.lit b)=>match decide (k=k') with|true=>decide (a=b)|false=>false
 | .jm,.jm=>true
 | .cO,.cO=>true
 | .agg l,.agg m=>Bp l m
 | .ay l,.ay m=>Bp l m
 | _,_=>false
def Bp:List AV→List AV→Bool
 | [], [] => true
 | a::l,b::m=>match EM a b with|true=>Bp l m|false=>false
 | _,_=>false
end
theorem zFq {a b:Bool} (h:Qr a b=true):a=b:=by cases a<;>cases b<;>first|rfl|cases h
mutual
theorem Qq: ∀ {a b:AV},EM a b=true→a=b
 | .bool (.lit a),.bool (.lit b),h=>by rw [zFq (a:=a) (b:=b) h]
 | .int k (.lit a),.int k' (.lit b),h=>by
  rw [EM] at h;split at h
  ·rename_i hk;rw [ybQ hk,ybQ h]
  ·cases h
 | .jm,.jm,_=>rfl
 | .cO,.cO,_=>rfl
 | .agg l,.agg m,h=>by rw [JZ (l:=l) (m:=m) h]
 | .ay l,.ay m,h=>by rw [JZ (l:=l) (m:=m) h]
theorem JZ: ∀ {l m:List AV},Bp l m=true→l=m
 | [], [], _=>rfl
 | a::l,b::m,h=>by
  rw [Bp] at h;split at h
  ·rename_i ha;rw [Qq ha,JZ h]
  ·cases h
end
def zG (x : AV) (v : AV) (_ : Heap) : Ob := match EM v x with | true => .ok | false => .bad 96 "other"
theorem O0 {P:Program} (hmo:P.follows .mixedOrders=true) {n:Nat} {f:FuncId} {args:List AV} {vals:List Value} {x:AV} {u:Value} (hx:yV x=some u) (ha:RL Val.zero (fun _=>none) args vals)
  (h:(ev P Ba n (.call f args nX (zG x))).good=true) (w:World):
  Calls P f vals.toArray w fun e w'=>e= .returned u∧Below w.heap.size w w':=by
 have hg:=IL (P:=P) (ρ:=Val.zero) (w0:=Cx.plain w) (gD:=Ba) zAm (fun n rec hg=>AL hmo hg) n;refine yaq ((hg.call f args nX (zG x) (Ob.yX h)).2 (fun _=>none) w vals (inv0 w) ha) fun e w' he=> ?_;obtain ⟨u',rfl,v,H',j',h1,h2,h3,h4⟩:=he;have hv:v=x:=by
  unfold zG at h4;split at h4
  ·rename_i e;exact Qq e
  ·exact h4.elim
 rw [hv] at h1;rw [Qg hx h1];exact ⟨rfl,h2.fr.below⟩
theorem P7 {ρ:Val} {j:J} {k:IntKind} {n:Int} {l:List AV} {m:List Value} (h:RL ρ j l m):RL ρ j (.int k (.lit n)::l) (.int k n::m):=⟨_,_,rfl,rfl,h⟩
theorem Pp {ρ:Val} {j:J} {b:Bool} {l:List AV} {m:List Value} (h:RL ρ j l m):RL ρ j (.bool (.lit b)::l) (.bool b::m):=⟨_,_,rfl,rfl,h⟩
end Go.Dw
namespace Go.Proofs
open Go.Dw Go.RowKit
theorem Tryz.iP (w:World) (o:Obj):(w.alloc o).heap.size=w.heap.size+1:=by simp
def Tryz.abx:aG:=⟨83,[sl1 []],0,0,0,.int .i64 (.var 7),0⟩
open Go.Maps Go.Sort
theorem Tryz.Cl.kept {w w':World} {b:Nat} {l:List Value} (h:Cl w b l) (e:w'.heap[b]? =w.heap[b]?):Cl w' b l:=by
 refine ⟨?_,fun i v hv=>by rw [yan (a:=⟨b,i,none⟩) e];exact h.cell i v hv,fun i=>by rw [ycC (a:=⟨b,i,none⟩) e];exact h.free i⟩;have q:w'.heap[b]? =some (w.heap[b]'h.lt):=by rw [e];exact yaL h.lt
 exact (yap.1 q).1
theorem Tryz.IZ (F:Int) (k:Nat) (hk:k≤2) (h0:0≤F) (h1:F<65536):bits .and .u16 F ((2^k:Nat):Int)=F/((2^k:Nat):Int)%2*((2^k:Nat):Int):=by
 obtain ⟨x,rfl⟩:=yaT h0;have hx:x<2^16:=by omega
 have hp:2^k<2^16:=Nat.pow_lt_pow_right (by decide) (by omega);unfold bits;simp only [yc5];have ex:(BitVec.ofInt IntKind.u16.bits (x:Int)).toNat=x:=by
  rw [ycG,yb6];exact ybd hx
 have ey:(BitVec.ofInt IntKind.u16.bits ((2^k:Nat):Int)).toNat=2^k:=by
  rw [ycG,yb6];exact ybd hp
 have e0:x&&&2^k=x/2^k%2*2^k:=by
  have e1:x&&&2^k=if x.testBit k then 2^k else 0:=by
   apply ybh;intro i;rw [yca,ycq];by_cases hi:k=i
   ·subst hi;cases x.testBit k<;>simp [ycq]
   ·cases x.testBit k<;>simp [ycq,hi]
  rw [e1,Nat.testBit_eq_decide_div_mod_eq];have:x/2^k%2=0∨x/2^k%2=1:=by omega
  rcases this with h|h<;>simp [h]
 rw [ex,ey,e0];have hb:x/2^k%2*2^k≤2^k:=by
  have:x/2^k%2≤1:=by omega
  calc _≤1*2^k:=ybc _ this
   _=_:=Nat.one_mul _
 have hc:(x:Int)/((2^k:Nat):Int)%2*((2^k:Nat):Int)=((x/2^k%2*2^k:Nat):Int):=by rw [Int.natCast_mul,Int.natCast_emod,Int.natCast_ediv];rfl
 rw [hc];generalize x/2^k%2*2^k=y at hb ⊢;exact yE (by omega) (by omega)
def Tryz.tJ (e e1:Int):Int:=if e=0 then e1 else e
set_option maxRecDepth 100000 in
theorem Tryz.Dk (X:Nat) (a b:Value) (n e e1:Int) (w:World) (hX:Cl w X [a,b,.int .i64 n,.int .i64 e]):
  Calls prog 136 #[.pointer (some ⟨X,0,none⟩),.int .i64 e1] w fun en w'=>en= .returned (.tuple #[])∧Cl w' X [a,b,.int .i64 n,.int .i64 (tJ e e1)]∧Dw.Mv (· =X) w w':=by
 have c3:=hX.cell 3 _ rfl;have f3:=hX.free 3;go_enter func136,ntmps136;by_cases he:e=0
 ·go_wp2;go_end0;refine ⟨rfl,?_,⟨rfl,rfl,rfl,by simp,fun k hk hne=>yac w _ _ k hne⟩⟩;rw [show tJ e e1=e1 from yaj he];exact hX.set 3 (.int .i64 e1) (by simp)
 ·go_wp2;go_end0;refine ⟨rfl,?_,⟨rfl,rfl,rfl,yab _,fun _ _ _=>rfl⟩⟩;rw [show tJ e e1=e from yai he];exact hX
set_option maxRecDepth 100000 in
theorem Tryz.zvS (X b2:Nat) (p v:Value) (n e A Ln F:Int) (l:List Sg) (w:World) (hX:Cl w X [p,v,.int .i64 n,.int .i64 e]) (hv:bG w b2 v l) (hb2:b2≤w.heap.size) (hXb:X<b2) (hl:l.length≤100000) (hF:0≤F∧F<65536):
  Calls prog 139 #[.pointer (some ⟨X,0,none⟩),.int .u64 A,.int .u32 Ln,.int .u16 F] w fun en w'=>en= .returned (.tuple #[])∧ ∃v',Cl w' X [p,v',.int .i64 n,.int .i64 e]∧bG w' b2 v' (l++ [⟨A,Ln,F/2%2*2 !=0⟩])∧Dw.Mv (fun b=>b=X∨v.ownBlock=some b) w w'∧ ∀b,v'.ownBlock=some b→v.ownBlock=some b∨w.heap.size≤b:=by
 obtain ⟨i0,hi0,hz0,hz1,hzb⟩:=ybo D8;obtain ⟨sa,sc,rfl,_⟩:=hv.slice;have hbt:bits .and .u16 F 2=F/2%2*2:=by have:=IZ F 1 (by decide) hF.1 hF.2;simpa using this
 have c1:=hX.cell 1 _ rfl;have hb0:=(yah w.heap.size w).alloc (yab _) (.cells #[.int .u64 A,.int .u32 Ln,.bool (F/2%2*2 !=0)] 43);have hrow:bG (w.alloc (.cells #[.int .u64 A,.int .u32 Ln,.bool (F/2%2*2 !=0)] 43)) b2 (.slice sa l.length sc) l:=hv.kept fun b e=>hb0.block b (hv.lt b e).2.1;have hlt:=hv.lt;have QO:=hX.lt;go_enter func139,ntmps139;refine wp_region_lit ?_
 iterate 12 (refine ydS fun K hK=> ?_;go_simp;refine hK _ _ ?_;clear hK)
 refine ycp _ rfl _ _ 40 rfl b2 43 i0 (.agg #[.int .u64 0,.int .u32 0,.bool false]) 3 16 underlying40 hi0 hz0 hz1 hzb rfl (by decide) (.slice sa l.length sc) l.length (dV l) rfl hrow ⟨w.heap.size,0,none⟩ 1 1 [.int .u64 A,.int .u32 Ln,.bool (F/2%2*2 !=0)] rfl rfl (fun j u hu=>by rw [yct];exact (Cl.new w _ _).cell (0+j) u (by rw [yau];exact hu)) (fun u hu=>by simp only [yad,yag,yaB] at hu;rcases hu with rfl|rfl|rfl<;>rfl) (by unfold maxLen;omega) (by omega) (by simp;omega) ?_;intro v' w3 hown' hg3 hnil3 Ku;have rA:=hX.kept ((hg3.block X (by simp;omega) (fun e=>by have:=(hlt X e.symm).1;omega)).trans (hb0.block X QO));have d1:=rA.cell 1 _ rfl;have g1:=rA.free 1;have hlen:(dV l++ [.int .u64 A,.int .u32 Ln,.bool (F/2%2*2 !=0)])=dV (l++ [⟨A,Ln,F/2%2*2 !=0⟩]):=by simp [dV,Sg.cells]
 have hl1:l.length+1=(l++ [(⟨A,Ln,F/2%2*2 !=0⟩:Sg)]).length:=by simp
 rw [hlen,hl1] at hown';have LB:bG w3 b2 v' (l++ [⟨A,Ln,F/2%2*2 !=0⟩]):=hown';obtain ⟨sa',sc',rfl,_⟩:=LB.slice;rw [show (l++ [(⟨A,Ln,F/2%2*2 !=0⟩:Sg)]).length=l.length+1 from by simp] at LB Ku;clear hown' hlen hl1 hrow c1 hnil3;refine ydS fun K hK=> ?_;go_simp;refine hK _ _ ?_;clear hK;refine ydS fun K hK=> ?_;go_simp;refine hK _ _ ?_;clear hK;refine ydS fun K hK=> ?_;go_simp;refine hK _ _ ?_;clear hK;refine wpList_nil ?_;go_end0;have hs3:=hg3.size;have hnv:(Value.slice sa' (l.length+1) sc').ownBlock≠some X:=fun e=>by
  rcases Ku with h|h
  ·rw [h] at e;have:=(hlt X e).1;omega
  ·rw [h] at e;simp at e;omega
 refine ⟨rfl,_,rA.set 1 _ (by simp),LB.kept fun b e=>yac w3 ⟨X,1,none⟩ _ b (fun e2=>by have e2:b=X:=e2;rw [e2] at e;exact hnv e),⟨hg3.os,hg3.tape,hg3.output,by simp at hs3 ⊢;omega,fun b hb hn=> ?_⟩,fun b hb=> ?_⟩
 ·rw [yac w3 ⟨X,1,none⟩ _ b (fun e2=>hn (.inl e2))];exact (hg3.block b (by simp;omega) (fun e2=>hn (.inr e2.symm))).trans (hb0.block b hb)
 ·rcases Ku with h|h
  ·exact .inl (h▸hb)
  ·rw [h] at hb;simp at hb;exact .inr (by omega)
theorem Tryz.bP.Cs {w w':World} {P L Bs B N X:Nat} {g:Nat→Int} (h:bP w P L Bs B N g) (hm:Dw.Mv (· =X) w w') (hx:X≠P∧X≠L∧X≠Bs∧X≠B):bP w' P L Bs B N g:=
 h.kept (fun k hk hq=>hm.block k hk fun e=>by
  have e:k=X:=e;obtain ⟨h1,h2,h3,h4⟩:=hx;rcases hq with q|q|q|q<;>(rw [e] at q;contradiction)) hm.size
def Tryz.uX (e x:Int):Int:=if x=0 then e else tJ e x
set_option maxRecDepth 100000 in
theorem Tryz.zwc (X P L Bs B N:Nat) (v:Value) (n e A k:Int) (g:Nat→Int) (w:World) (hX:Cl w X [.pointer (some ⟨P,0,none⟩),v,.int .i64 n,.int .i64 e]) (st:bP w P L Bs B N g) (hN:N≤1048576) (ha:0≤A∧A<18446744073709551616) (hk:0≤k∧k<4294967296):
    Calls prog 161 #[.pointer (some ⟨X,0,none⟩),.int .u64 A,.int .u32 k] w fun en w'=>en= .returned (.tuple #[.int .i64 (fq N A k).1,.bool (decide ((fq N A k).2=0))])∧
      Cl w' X [.pointer (some ⟨P,0,none⟩),v,.int .i64 n,.int .i64 (uX e (fq N A k).2)]∧Dw.Mv (· =X) w w':=by
  have c0:=hX.cell 0 _ rfl;have t1:k.tmod 16=k%16:=ycP hk.1;have t2:k.tdiv 16=k/16:=ydK hk.1;have hst:=fun e1 w1 (h1:Cl w1 X [.pointer (some ⟨P,0,none⟩),v,.int .i64 n,.int .i64 e])=>Dk X (.pointer (some ⟨P,0,none⟩)) v n e e1 w1 h1;have hhas:=zne P L Bs B N A k g w st hN ha.1 ha.2 hk.1 (by omega);have wk:IntKind.wrap .u64 k=k:=cZ (by omega) (by omega);have wd:IntKind.wrap .i64 (k/16)=k/16:=gy (by omega) (by omega);have wq:IntKind.wrap .u32 (k/16)=k/16:=Py (by omega) (by omega);have wZ: ∀ {a b:World},Below a.heap.size a b→Dw.Mv (· =X) a b:=fun h=>⟨h.os,h.tape,h.output,h.size,fun b hb _=>h.block b hb⟩;by_cases hbad:k=0∨ ¬k%16=0∨64<k/16
  · have he:fq N A k=(0,4):=by unfold fq;rw [yaj hbad]
    rw [he,show uX e (0,(4:Int)).2=tJ e 4 from rfl,show decide ((((0:Int),(4:Int)).2)=0)=false from rfl];go_enter func161,ntmps161;by_cases q1:k=0
    · subst q1;go_wp2_with (first
        | (go_at_call 136;refine (hst 4 _ hX).mono ?_;rintro en w1 ⟨rfl,h1,hm1⟩)
        | go_in)
      go_ret2;exact ⟨rfl,h1,hm1⟩
    · by_cases q2:k%16=0
      · have q3:64<k/16:=by
          rcases hbad with h|h|h
          · exact absurd h q1
          · exact absurd q2 h
          · exact h
        go_wp2_with (first
          | (go_at_call 136;refine (hst 4 _ hX).mono ?_;rintro en w1 ⟨rfl,h1,hm1⟩)
          | go_in)
        go_ret2;exact ⟨rfl,h1,hm1⟩
      · go_wp2_with (first
          | (go_at_call 136;refine (hst 4 _ hX).mono ?_;rintro en w1 ⟨rfl,h1,hm1⟩)
          | go_in)
        go_ret2;exact ⟨rfl,h1,hm1⟩
  · have q1: ¬k=0:=fun h=>hbad (.inl h);have q2:k%16=0:=by
      by_cases h:k%16=0
      · exact h
      · exact absurd (.inr (.inl h)) hbad
    have q3: ¬64<k/16:=fun h=>hbad (.inr (.inr h));by_cases hin:A+k≤N
    · have he:fq N A k=(k/16,0):=by unfold fq;rw [yai hbad,yaj hin]
      rw [he,show uX e (k/16,(0:Int)).2=e from rfl,show decide (((k/16,(0:Int)).2)=0)=true from rfl];rw [yaG (show 1≤k∧A+k≤N from ⟨by omega,hin⟩)] at hhas;go_enter func161,ntmps161;go_wp2_with (first
        | (go_at_call 175;refine hhas.mono ?_;rintro en w1 ⟨rfl,hb1⟩)
        | go_in)
      go_ret2;exact ⟨rfl,hX.below hb1 hX.lt,wZ hb1⟩
    · have he:fq N A k=(0,5):=by unfold fq;rw [yai hbad,yai hin]
      rw [he,show uX e (0,(5:Int)).2=tJ e 5 from rfl,show decide ((((0:Int),(5:Int)).2)=0)=false from rfl];rw [yar (show¬(1≤k∧A+k≤N) from fun h=>hin h.2)] at hhas;go_enter func161,ntmps161;go_wp2_with (first
        | (go_at_call 175;refine hhas.mono ?_;rintro en w1 ⟨rfl,hb1⟩)
        | (go_at_call 136;refine (hst 5 _ (hX.below hb1 hX.lt)).mono ?_;rintro en w2 ⟨rfl,h2,hm2⟩)
        | go_in)
      go_ret2;exact ⟨rfl,h2,(wZ hb1).trans hm2⟩
end Go.Proofs
namespace Go.Proofs
open Go.Dw
def Tryz.znl:List aG:= []
def Tryz.zrU:List Sh:= [wS 3 4 0]
def Tryz.Gz:List (Nat×AV):= [(0,ny [(.lit 0,1)]),(3,.int .u64 (aj 2)),(4,.int .i64 (.lit 0))]
def Tryz.YT:List dD:= []
def Tryz.YU:List dX:= []
def Tryz.zrV:Option AV:=none
def Tryz.zzF:List (SB×Bool):= [(.cmp .lss (.lit 0) (ah 0),true)]
def Tryz.zwm:List gu:= [
 ⟨.ret,[2],none,⟨.ay [.int .i64 (.lit 2)],[],[],0,[]⟩⟩,
 ⟨.normal,[0,3,4],none,⟨.ay [.sx 0 ((ah 0)) 3 [((.lit 0),1)],.int .u64 (.bin .add .u64 (aj 2) (aW 4)),.int .i64 (.lit 1)],[],[],0,[]⟩⟩]
def Tryz.zwl:List (List (SB×Bool)×Nat):= [
 ([((.cmp .eql (aW 4) (.lit 0)),true)],0),
 ([((.cmp .eql (aW 4) (.lit 0)),false),((.cmp .lss (.bin .add .u64 (aj 3) (.bin .sub .u64 (aW 4) (.lit 1))) (aj 3)),true)],0),
 ([((.cmp .eql (aW 4) (.lit 0)),false),((.cmp .lss (.bin .add .u64 (aj 3) (.bin .sub .u64 (aW 4) (.lit 1))) (aj 3)),false)],1)]
theorem Tryz.zzE:(fG prog (bB znl) (fK YT) (fJ YU) 100000 (.code (bJ prog [0,0,1,0,1,1,1,83]) [0,0,1,0,1,1,1,83] 71 (bO 71 Gz zrV) (bn 0 zrU) (fO zwm 0))).ways zzF=some zwl:=by kernel_rfl
theorem Tryz.zCQ:(bD zrU&&zag znl&&fZ YT&&gq YU&&fP Gz&&gL zwm&&fI 71 Gz&&Nat.ble 71 bM&&gK zrV)=true:=by kernel_rfl
def Tryz.znk:List aG:= []
def Tryz.zrS:List Sh:= [wS 3 4 0,wS 5 6 1]
def Tryz.Gy:List (Nat×AV):= [(0,ny [(ah 1,1),(.bin .sub .i64 (ah 1) (.lit 1),2)]),(3,.int .u64 (aj 2)),(4,.int .i64 (ah 1))]
def Tryz.YR:List dD:= []
def Tryz.YS:List dX:= []
def Tryz.zrT:Option AV:=none
def Tryz.zzD:List (SB×Bool):= [(.cmp .lss (ah 1) (ah 0),true),(.cmp .gtr (ah 1) (.lit 0),true)]
def Tryz.zwk:List gu:= [
 ⟨.ret,[2],none,⟨.ay [.int .i64 (.lit 2)],[],[],0,[]⟩⟩,
 ⟨.normal,[0,3,4],none,⟨.ay [.sx 0 ((ah 0)) 3 [((ah 1),1),((.bin .sub .i64 (ah 1) (.lit 1)),2)],.int .u64 (.bin .add .u64 (aj 2) (aW 4)),.int .i64 (.bin .add .i64 (ah 1) (.lit 1))],[],[],0,[]⟩⟩]
def Tryz.zwj:List (List (SB×Bool)×Nat):= [
 ([((.cmp .eql (aW 4) (.lit 0)),true)],0),
 ([((.cmp .eql (aW 4) (.lit 0)),false),((.cmp .lss (.bin .add .u64 (aj 3) (.bin .sub .u64 (aW 4) (.lit 1))) (aj 3)),true)],0),
 ([((.cmp .eql (aW 4) (.lit 0)),false),((.cmp .lss (.bin .add .u64 (aj 3) (.bin .sub .u64 (aW 4) (.lit 1))) (aj 3)),false),(.var 1,true),(.var 0,false)],0),
 ([((.cmp .eql (aW 4) (.lit 0)),false),((.cmp .lss (.bin .add .u64 (aj 3) (.bin .sub .u64 (aW 4) (.lit 1))) (aj 3)),false),(.var 1,true),(.var 0,true)],1),
 ([((.cmp .eql (aW 4) (.lit 0)),false),((.cmp .lss (.bin .add .u64 (aj 3) (.bin .sub .u64 (aW 4) (.lit 1))) (aj 3)),false),(.var 1,false)],1)]
theorem Tryz.zzC:(fG prog (bB znk) (fK YR) (fJ YS) 100000 (.code (bJ prog [0,0,1,0,1,1,1,83]) [0,0,1,0,1,1,1,83] 71 (bO 71 Gy zrT) (bn 0 zrS) (fO zwk 0))).ways zzD=some zwj:=by kernel_rfl
theorem Tryz.zCP:(bD zrS&&zag znk&&fZ YR&&gq YS&&fP Gy&&gL zwk&&fI 71 Gy&&Nat.ble 71 bM&&gK zrT)=true:=by kernel_rfl
def Tryz.znj:List aG:= []
def Tryz.zrQ:List Sh:= []
def Tryz.Gx:List (Nat×AV):= [(0,ny []),(3,.int .u64 (aj 2)),(4,.int .i64 (ah 1))]
def Tryz.YP:List dD:= []
def Tryz.YQ:List dX:= []
def Tryz.zrR:Option AV:=none
def Tryz.zzB:List (SB×Bool):= [(.cmp .lss (ah 1) (ah 0),false)]
def Tryz.zwi:List gu:= [
 ⟨(.exit 0),[3],none,⟨.ay [.int .u64 (aj 2)],[],[],0,[]⟩⟩]
def Tryz.zwh:List (List (SB×Bool)×Nat):= [
 ([], 0)]
theorem Tryz.zzA:(fG prog (bB znj) (fK YP) (fJ YQ) 100000 (.code (bJ prog [0,0,1,0,1,1,1,83]) [0,0,1,0,1,1,1,83] 71 (bO 71 Gx zrR) (bn 0 zrQ) (fO zwi 0))).ways zzB=some zwh:=by kernel_rfl
theorem Tryz.zCO:(bD zrQ&&zag znj&&fZ YP&&gq YQ&&fP Gx&&gL zwi&&fI 71 Gx&&Nat.ble 71 bM&&gK zrR)=true:=by kernel_rfl
def Tryz.zni:List aG:= []
def Tryz.zrO:List Sh:= []
def Tryz.Gw:List (Nat×AV):= [(3,.int .u64 (aj 2))]
def Tryz.XU:List dD:= []
def Tryz.XV:List dX:= []
def Tryz.zrP:Option AV:=none
def Tryz.zzz:List (SB×Bool):= []
def Tryz.zwg:List gu:= [
 ⟨.ret,[2],none,⟨.ay [.int .i64 (.lit 2)],[],[],0,[]⟩⟩,
 ⟨.ret,[2],none,⟨.ay [.int .i64 (.lit 0)],[],[],0,[]⟩⟩]
def Tryz.zwf:List (List (SB×Bool)×Nat):= [
 ([((.cmp .geq (aj 2) (.lit 4294967296)),true)],0),
 ([((.cmp .geq (aj 2) (.lit 4294967296)),false)],1)]
theorem Tryz.zzy:(fG prog (bB zni) (fK XU) (fJ XV) 100000 (.code (bJ prog [1,1,1,1,83]) [1,1,1,1,83] 71 (bO 71 Gw zrP) (bn 0 zrO) (fO zwg 0))).ways zzz=some zwf:=by kernel_rfl
theorem Tryz.zCN:(bD zrO&&zag zni&&fZ XU&&gq XV&&fP Gw&&gL zwg&&fI 71 Gw&&Nat.ble 71 bM&&gK zrP)=true:=by kernel_rfl
def Tryz.zrM:List aG:= [abx]
def Tryz.zwe:List Sh:= []
def Tryz.zrN:List AV:= [sl1 []]
def Tryz.zCM:List (SB×Bool):= []
def Tryz.U3:List Leaf:= [
 ⟨.int .i64 (.lit 2),[],[],0,[]⟩,
 ⟨.int .i64 (.var 7),[],[],0,[]⟩]
def Tryz.U2:List (List (SB×Bool)×Nat):= [
 ([((.cmp .eql (.var 7) (.lit 0)),true),((.cmp .eql (ah 0) (.lit 0)),true)],0),
 ([((.cmp .eql (.var 7) (.lit 0)),true),((.cmp .eql (ah 0) (.lit 0)),false)],1),
 ([((.cmp .eql (.var 7) (.lit 0)),false)],1)]
theorem Tryz.zCL:(ev prog (bB zrM) 100000 (.call 54 zrN (bn 0 zwe) (cK U3 0))).ways zCM=some U2:=by kernel_rfl
theorem Tryz.zEP:(bD zwe&&zag zrM&&AV.bK zrN&&dh U3)=true:=by kernel_rfl
open Go.RowKit
structure Tryz.EG (l:List Sg) (sa:Option Addr) (c:Nat) (w0:World) (k:Nat) (a:Act) (w:World):Prop where
 kl:k≤l.length
 size:a.tmps.size=71
 eT:a.defers= []
 s0:a.tmps.getD 0 undef= .slice sa l.length c
 s4:a.tmps.getD 4 undef= .int .i64 k
 mv:Below w0.heap.size w0 w
 sum: ∃pw s,a.tmps.getD 3 undef= .int .u64 s∧0≤s∧s≤k*4294967296∧jA pw s (l.drop k)=jA false 0 l∧(k=0→pw=false)∧(∀i,k=i+1→ ∃h:i<l.length,pw=l[i].wr)
theorem Tryz.zFR {ρ:Val} {j:J} {sa:Option Addr} {n c:Nat} (hv:ρ.v 0= .slice sa n c) (hd:(ah 0).den ρ=n):Dw.R ρ j (ny []) (.slice sa n c):=by
 have:Dw.R ρ j (ny []) (ρ.v 0):=⟨rfl,sa,n,c,hv,hd.symm,trivial⟩
 rwa [hv] at this
theorem Tryz.zzG {l:List Sg} {sa:Option Addr} {c:Nat} {w0:World} {k:Nat} {a:Act} {w:World} (h:EG l sa c w0 k a w) (hl:l.length≤64) (hok: ∀x∈l,x.ok)
    (hr:l= []∨ ∃R o,sa=some ⟨R,o,none⟩∧w0.rangeAt R o (dV l)):
    (bJ prog [0,0,1,0,1,1,1,83]).wp prog (fun ex a' w'=>match ex with
      | .normal=>k<l.length∧EG l sa c w0 (k+1) a' w'
      | ex=>a'.tmps.size=71∧a'.defers= []∧Below w0.heap.size w0 w'∧((ex= .ret∧jA false 0 l=2∧a'.tmps.getD 2 undef= .int .i64 2)∨(ex= .exit 0∧ ∃s,jA false 0 l=(if 4294967296≤s then 2 else 0)∧a'.tmps.getD 3 undef= .int .u64 s∧0≤s∧s<18446744073709551616))) a w:=by
  obtain ⟨kl,size,eT,s0,s4,mv,pw,s,s3,hs0,hs1,hsw,hp0,hp1⟩:=h;have hden: ∀(n k' s':Int) (x y:Sg) (sl:Value),n=l.length→0≤k'→k'≤64→0≤s'→s'<18446744073709551616→x.ok→(ah 0).den (fQ n k' s' x y sl)=l.length∧(ah 1).den (fQ n k' s' x y sl)=k'∧(aj 2).den (fQ n k' s' x y sl)=s'∧(aj 3).den (fQ n k' s' x y sl)=x.aP∧(aW 4).den (fQ n k' s' x y sl)=x.len:=by
    intro n k' s' x y sl h1 h2 h3 h4 h5 h6;subst h1;exact ⟨dK (by show (0:Int)≤l.length;omega) (by show ((l.length:Nat):Int)<_;omega),dK h2 (by show k'<_;omega),fM h4 h5,fM h6.1 h6.2.1,lU h6.2.2.1 h6.2.2.2⟩
  by_cases hkl:k<l.length
  · rcases hr with h0|⟨R,o,rfl,hr⟩
    · rw [h0] at hkl;simp at hkl
    have Kn:=rZ hr (by intro h0;rw [h0] at hkl;simp at hkl);have hrw:w.rangeAt R o (dV l):=iR hr (mv.block R Kn);have hx:=Db hrw k hkl;have hxo:=hok l[k] (yaS hkl);rw [ycl hkl] at hsw;generalize hX:l[k]=X at hx hxo hsw;have BF:=hxo;obtain ⟨TN,xa1,TP,TQ⟩:=hxo;rw [jA] at hsw;have hwl:X.len≠0→IntKind.wrap .u64 (X.len-1)=X.len-1:=fun h=>cZ (by omega) (by omega);have qB:IntKind.wrap .u64 (X.aP+(X.len-1))=(X.aP+(X.len-1))%18446744073709551616:=ZP _;have hws:IntKind.wrap .u64 (s+X.len)=s+X.len:=cZ (by omega) (by omega);have hkk:IntKind.wrap .i64 ((k:Int)+1)=((k+1:Nat):Int):=by rw [gy (by omega) (by omega)];omega
    have fin: ∀ {a':Act} {w':World},a'.tmps.size=71→a'.defers= []→Below w.heap.size w w'→([0,3,4].map fun t=>a'.tmps.getD t undef)= [.slice (some ⟨R,o,none⟩) l.length c,.int .u64 (s+X.len),.int .i64 (k+1:Nat)]→
        jA X.wr (s+X.len) (l.drop (k+1))=jA false 0 l→k<l.length∧EG l (some ⟨R,o,none⟩) c w0 (k+1) a' w':=fun {a' w'} q1 q2 q5 q8 q9=>by
      simp only [yaJ,yaZ,yaM,yaN] at q8;obtain ⟨t0,t3,t4⟩:=q8;refine ⟨hkl,⟨by omega,q1,q2,t0,t4,mv.trans (q5.mono mv.size),X.wr,s+X.len,t3,by omega,by push_cast;omega,q9,by omega,fun i hi=> ?_⟩⟩;have:k=i:=by omega
      subst this;exact ⟨hkl,by rw [hX]⟩
    rcases ybm k with hk0|hk0
    · subst hk0;have hpw:=hp0 rfl;subst hpw;obtain ⟨d0,d1,d2,d3,d4⟩:=hden l.length 0 s X X (.slice (some ⟨R,o,none⟩) l.length c) rfl (by omega) (by omega) hs0 (by omega) BF;have hv0:(fQ l.length 0 s X X (.slice (some ⟨R,o,none⟩) l.length c)).v 0= .slice (some ⟨R,o,none⟩) l.length c:=rfl;have hb0:(fQ l.length 0 s X X (.slice (some ⟨R,o,none⟩) l.length c)).b 0=X.wr:=rfl;generalize fQ l.length 0 s X X (.slice (some ⟨R,o,none⟩) l.length c)=ρ at*;have hj1:aT [(R,o)] 1=some ⟨R,o,0,none⟩:=rfl;have hsx:Dw.R ρ (aT [(R,o)]) (ny [(.lit 0,1)]) (.slice (some ⟨R,o,none⟩) l.length c):=by
        have:Dw.R ρ (aT [(R,o)]) (ny [(.lit 0,1)]) (ρ.v 0):=⟨rfl,_,_,_,hv0,d0.symm,⟨R,o,_,0,rfl,hj1,rfl,rfl,hkl,rfl⟩,trivial⟩
        rwa [hv0] at this
      refine ya3 (iF (ρ:=ρ) (K:=fun _=>False) (g:=bg.none) (bl:= [(R,o)]) mixed zzE zCQ (fun b h=>h.elim)
        ⟨oG hx (by unfold Sg.cells;simp) (af (ai d3) (af (ai d4) (af (aU hb0) RL.nil))) (fun h=>h),trivial⟩
        ⟨fun h=>(by cases h),trivial⟩ fo trivial trivial trivial size eT ?_ (aH.2 ⟨by rw [fF,d0,aC];simp only [yat];omega,aR.2 trivial⟩)) fun ex a' w' hh=> ?_
      · intro t ht;simp only [Gz,yad,yag,yaB] at ht;rcases ht with rfl|rfl|rfl
        · rw [s0];exact hsx
        · rw [s3];exact ai d2
        · rw [s4];exact ai rfl
      · obtain ⟨q,hq,hto,lf,hlf,rfl,hsz,j,hdf,he⟩:=hh;have hbl:=gF he (fun _ h=>h);unfold zwl at hq;simp only [yad,yag,yaB] at hq;rcases hq with rfl|rfl|rfl
        all_goals
          simp only [aH,aR,iI,fF,bR,iG,den_add,aC,d0,d1,d2,d3,d4,yat,yas,ya7,yaH,ycX,yaN] at hto;cases hlf;have hs:=fV he.ret
        · exact ⟨hsz,hdf,mv.trans (hbl.mono mv.size),.inl ⟨rfl,by rw [←hsw,yaj (by omega)],by simpa [AV.aI,AV.val,aC] using hs⟩⟩
        · obtain ⟨t1,t2⟩:=hto;rw [hwl t1,qB] at t2;exact ⟨hsz,hdf,mv.trans (hbl.mono mv.size),.inl ⟨rfl,by rw [←hsw,yaj (by omega)],by simpa [AV.aI,AV.val,aC] using hs⟩⟩
        · obtain ⟨t1,t2⟩:=hto;rw [hwl t1,qB] at t2;refine fin hsz hdf hbl ?_ ?_
          · rw [hs];simp only [AV.aI,AV.val,d2,d4,hv0,den_add,aC,hws];rfl
          · rw [←hsw,yai (by rintro (h|h|⟨h,_⟩);omega;omega;cases h)]
    · obtain ⟨i,rfl⟩: ∃i,k=i+1:=⟨k-1,by omega⟩;obtain ⟨hil,hpw⟩:=hp1 i rfl;have hy:=Db hrw i hil;have qC:=hok l[i] (yaS hil);generalize hY:l[i]=Y at hy qC hpw;subst hpw;have hk1:IntKind.wrap .i64 (((i+1:Nat):Int)-1)=(i:Int):=by rw [gy (by omega) (by omega)];omega
      obtain ⟨d0,d1,d2,d3,d4⟩:=hden l.length (i+1:Nat) s X Y (.slice (some ⟨R,o,none⟩) l.length c) rfl (by omega) (by omega) hs0 (by omega) BF;have hv0:(fQ l.length (i+1:Nat) s X Y (.slice (some ⟨R,o,none⟩) l.length c)).v 0= .slice (some ⟨R,o,none⟩) l.length c:=rfl;have hb0:(fQ l.length (i+1:Nat) s X Y (.slice (some ⟨R,o,none⟩) l.length c)).b 0=X.wr:=rfl;have hb1:(fQ l.length (i+1:Nat) s X Y (.slice (some ⟨R,o,none⟩) l.length c)).b 1=Y.wr:=rfl;have d5:(aj 5).den (fQ l.length (i+1:Nat) s X Y (.slice (some ⟨R,o,none⟩) l.length c))=Y.aP:=fM qC.1 qC.2.1;have d6:(aW 6).den (fQ l.length (i+1:Nat) s X Y (.slice (some ⟨R,o,none⟩) l.length c))=Y.len:=lU qC.2.2.1 qC.2.2.2;generalize fQ l.length (i+1:Nat) s X Y (.slice (some ⟨R,o,none⟩) l.length c)=ρ at*;have hj1:aT [(R,o+3*(i+1)),(R,o+3*i)] 1=some ⟨R,o+3*(i+1),0,none⟩:=rfl;have hj2:aT [(R,o+3*(i+1)),(R,o+3*i)] 2=some ⟨R,o+3*i,0,none⟩:=rfl;have hsx:Dw.R ρ (aT [(R,o+3*(i+1)),(R,o+3*i)]) (ny [(ah 1,1),(.bin .sub .i64 (ah 1) (.lit 1),2)]) (.slice (some ⟨R,o,none⟩) l.length c):=by
        have:Dw.R ρ (aT [(R,o+3*(i+1)),(R,o+3*i)]) (ny [(ah 1,1),(.bin .sub .i64 (ah 1) (.lit 1),2)]) (ρ.v 0):=
          ⟨rfl,_,_,_,hv0,d0.symm,⟨R,o,_,i+1,rfl,hj1,rfl,d1,hkl,rfl⟩,⟨R,o,_,i,rfl,hj2,rfl,by rw [iG,d1,aC,hk1];rfl,hil,rfl⟩,trivial⟩
        rwa [hv0] at this
      refine ya3 (iF (ρ:=ρ) (K:=fun _=>False) (g:=bg.none) (bl:= [(R,o+3*(i+1)),(R,o+3*i)]) mixed zzC zCP (fun b h=>h.elim)
        ⟨oG hx (by unfold Sg.cells;simp) (af (ai d3) (af (ai d4) (af (aU hb0) RL.nil))) (fun h=>h),oG hy (by unfold Sg.cells;simp) (af (ai d5) (af (ai d6) (af (aU hb1) RL.nil))) (fun h=>h),trivial⟩
        ⟨fun h=>(by cases h),fun h=>(by cases h),trivial⟩ fo trivial trivial trivial size eT ?_ (aH.2 ⟨by rw [fF,d0,d1];simp only [yat];omega,aH.2 ⟨by rw [gZ,d1,aC];simp only [yat];omega,aR.2 trivial⟩⟩)) fun ex a' w' hh=> ?_
      · intro t ht;simp only [Gy,yad,yag,yaB] at ht;rcases ht with rfl|rfl|rfl
        · rw [s0];exact hsx
        · rw [s3];exact ai d2
        · rw [s4];exact ai d1
      · obtain ⟨q,hq,hto,lf,hlf,rfl,hsz,j,hdf,he⟩:=hh;have hbl:=gF he (fun _ h=>h);unfold zwj at hq;simp only [yad,yag,yaB] at hq;rcases hq with rfl|rfl|rfl|rfl|rfl
        all_goals
          simp only [aH,aR,iI,fF,bR,iG,den_add,aC,d0,d1,d2,d3,d4,hb0,hb1,yat,yas,ya7,yaH,ycX,yaN] at hto;cases hlf;have hs:=fV he.ret
        · exact ⟨hsz,hdf,mv.trans (hbl.mono mv.size),.inl ⟨rfl,by rw [←hsw,yaj (by omega)],by simpa [AV.aI,AV.val,aC] using hs⟩⟩
        · obtain ⟨t1,t2⟩:=hto;rw [hwl t1,qB] at t2;exact ⟨hsz,hdf,mv.trans (hbl.mono mv.size),.inl ⟨rfl,by rw [←hsw,yaj (by omega)],by simpa [AV.aI,AV.val,aC] using hs⟩⟩
        · exact ⟨hsz,hdf,mv.trans (hbl.mono mv.size),.inl ⟨rfl,by rw [←hsw,yaj (.inr (.inr ⟨hto.2.2.1,hto.2.2.2⟩))],by simpa [AV.aI,AV.val,aC] using hs⟩⟩
        · obtain ⟨t1,t2,t3,t4⟩:=hto;rw [hwl t1,qB] at t2;refine fin hsz hdf hbl ?_ ?_
          · rw [hs];simp only [AV.aI,AV.val,d1,d2,d4,hv0,den_add,aC,hws,hkk]
          · rw [←hsw,yai (by rintro (h|h|⟨h,h'⟩);omega;omega;rw [t4] at h';cases h')]
        · obtain ⟨t1,t2,t3⟩:=hto;rw [hwl t1,qB] at t2;refine fin hsz hdf hbl ?_ ?_
          · rw [hs];simp only [AV.aI,AV.val,d1,d2,d4,hv0,den_add,aC,hws,hkk]
          · rw [←hsw,yai (by rintro (h|h|⟨h,h'⟩);omega;omega;rw [t3] at h;cases h)]
  · have hkk:k=l.length:=by omega
    subst hkk;rw [List.drop_length,jA] at hsw;obtain ⟨d0,d1,d2,d3,d4⟩:=hden l.length l.length s ⟨0,0,false⟩ ⟨0,0,false⟩ (.slice sa l.length c) rfl (by omega) (by omega) hs0 (by omega) ⟨by decide,by decide,by decide,by decide⟩;have hv0:(fQ l.length l.length s ⟨0,0,false⟩ ⟨0,0,false⟩ (.slice sa l.length c)).v 0= .slice sa l.length c:=rfl;generalize fQ l.length l.length s ⟨0,0,false⟩ ⟨0,0,false⟩ (.slice sa l.length c)=ρ at*;refine ya3 (iF (ρ:=ρ) (K:=fun _=>False) (g:=bg.none) (bl:= []) mixed zzA zCO (fun b h=>h.elim) trivial trivial fo trivial trivial trivial size eT ?_ (aH.2 ⟨by rw [fF,d0,d1];simp,aR.2 trivial⟩)) fun ex a' w' hh=> ?_
    · intro t ht;simp only [Gx,yad,yag,yaB] at ht;rcases ht with rfl|rfl|rfl
      · rw [s0];exact zFR hv0 d0
      · rw [s3];exact ai d2
      · rw [s4];exact ai d1
    · obtain ⟨q,hq,hto,lf,hlf,rfl,hsz,j,hdf,he⟩:=hh;have hbl:=gF he (fun _ h=>h);unfold zwh at hq;simp only [yad,yag,yaB] at hq;subst hq;cases hlf;have hs:=fV he.ret;exact ⟨hsz,hdf,mv.trans (hbl.mono mv.size),.inr ⟨rfl,s,hsw.symm,by simpa [AV.aI,AV.val,d2] using hs,hs0,by omega⟩⟩
theorem Tryz.vY {fn:Func} {t:Tmp} {a:Act} {w:World} {v:Value} {Post:Ending→World→Prop} (hd:a.defers= []) (h:fn.results= #[.tmp t]) (hv:a.tmps.getD t undef=v) (hp:Post (.returned v) w):bodyPost prog fn Post .ret a w:=
 yaP (v:=v) (by
  have hv':a.tmps[t]?.getD undef=v:=by simpa using hv
  simp [results,h,hv']) hd hp
set_option maxRecDepth 100000 in
theorem Tryz.H9 {A:Nat→Prop} {w:World} {v:Value} {l:List Sg} (h:aX A w v l):
  Calls prog 83 #[v] w fun e w'=>e= .returned (.int .i64 (gH l))∧Below w.heap.size w w':=by
 obtain ⟨sa,c,rfl,hok,hr⟩:=h;unfold gH;by_cases hlen:64<l.length
 ·rw [yaj hlen];go_enter func83,ntmps83;go_wp2;go_ret;exact ⟨rfl,yah _ _⟩
 ·rw [yai hlen];have hr':l= []∨ ∃R o,sa=some ⟨R,o,none⟩∧w.rangeAt R o (dV l):=hr.imp_right fun ⟨R,o,e,_,hr⟩=>⟨R,o,e,hr⟩;go_enter func83,ntmps83;go_wp2;refine jy (c':= .loop (bJ prog [0,0,1,0,1,1,1,83])) (by kernel_rfl) ?_;refine xX (fun k a w'=>EG l sa c w k a w') (fun k=>l.length-k) (fun k a w' hI=>ya3 (zzG hI (by omega) hok hr') fun ex a' w2 hh=> ?_) 0 _ _ ?_
  ·cases ex with
   | normal=>exact ⟨k+1,by omega,hh.2⟩
   | ret=>
    obtain ⟨hsz,hdf,hb,⟨_,hV,h2⟩|⟨h,_⟩⟩:=hh
    ·exact vY (fn:=f83) (Post:=fun e w'=>e= .returned (.int .i64 (jA false 0 l))∧RowKit.Below w.heap.size w w') hdf rfl h2 ⟨by rw [hV],hb⟩
    ·cases h
   | exit i=>
    obtain ⟨hsz,hdf,hb,⟨h,_⟩|⟨h,s,hV,h3,hs0,hs1⟩⟩:=hh
    ·cases h
    ·cases h;simp only [Exit.inBlock,Exit.then,yaj];rename_i K hK;refine hK _ _ (jy (c':=bJ prog [1,1,1,1,83]) (by kernel_rfl) ?_);have d2:(aj 2).den (fQ 0 0 s ⟨0,0,false⟩ ⟨0,0,false⟩ undef)=s:=fM hs0 hs1;generalize fQ 0 0 s ⟨0,0,false⟩ ⟨0,0,false⟩ undef=ρ at*;refine ya3 (iF (ρ:=ρ) (K:=fun _=>False) (g:=bg.none) (bl:= []) mixed zzy zCN (fun b h=>h.elim) trivial trivial fo trivial trivial trivial hsz hdf ?_ (aR.2 trivial)) fun ex a3 w3 hh=> ?_
     ·intro t ht;simp only [Gw,yad,yag,yaB] at ht;subst ht;rw [h3];exact ai d2
     ·obtain ⟨q,hq,hto,lf,hlf,rfl,xH,j,E9,he⟩:=hh;have hb3:=gF he (fun _ h=>h);unfold zwf at hq;simp only [yad,yag,yaB] at hq;rcases hq with rfl|rfl
      all_goals
       simp only [aH,aR,je,d2,aC,yat,yas,yaN] at hto;cases hlf;have h2:=fV he.ret;simp only [AV.aI,AV.val,aC,yaJ,yaZ,yaM,yaN] at h2
      ·exact vY (fn:=f83) (Post:=fun e w'=>e= .returned (.int .i64 (jA false 0 l))∧RowKit.Below w.heap.size w w') E9 rfl h2 ⟨by rw [hV,yaj (by omega)],hb.trans (hb3.mono hb.size)⟩
      ·exact vY (fn:=f83) (Post:=fun e w'=>e= .returned (.int .i64 (jA false 0 l))∧RowKit.Below w.heap.size w w') E9 rfl h2 ⟨by rw [hV,yai (by omega)],hb.trans (hb3.mono hb.size)⟩
   | _=>obtain ⟨hsz,hdf,hb,⟨h,_⟩|⟨h,_⟩⟩:=hh<;>cases h
  ·exact ⟨yaE _,rfl,rfl,rfl,rfl,yah _ _,false,0,rfl,by decide,by decide,rfl,fun _=>rfl,fun i hi=>(by omega)⟩
open Go.Maps Go.Sort
def Tryz.dx (ids:List Int):List Value:=ids.map fun x=> .int .i64 x
def Tryz.aA (t:TypeId) (sz:Nat) (w:World) (b2:Nat) (v:Value) (n:Nat) (cs:List Value):Prop:=w.ownsRow b2 t sz v n cs
theorem Tryz.aA.kept {t:TypeId} {sz n:Nat} {w w':World} {b2:Nat} {v:Value} {cs:List Value} (h:aA t sz w b2 v n cs) (hb: ∀b,v.ownBlock=some b→w'.heap[b]? =w.heap[b]?):aA t sz w' b2 v n cs:=by
 obtain ⟨h1,h2⟩:=h;refine ⟨h1,?_⟩;rcases h2 with h2|⟨G,cap,cur,e,h3,h4,h5⟩
 ·exact .inl h2
 ·exact .inr ⟨G,cap,cur,e,h3,by rw [hb G (by rw [e];rfl)];exact h4,h5⟩
theorem Tryz.aA.lt {t:TypeId} {sz n:Nat} {w:World} {b2:Nat} {v:Value} {cs:List Value} (h:aA t sz w b2 v n cs): ∀b,v.ownBlock=some b→b2≤b∧b<w.heap.size:=fun b hb=>by
 obtain ⟨h1,h2⟩:=h;rcases h2 with ⟨rfl,_⟩|⟨G,cap,cur,rfl,h3,h4,h5⟩
 ·cases hb
 ·cases hb;exact ⟨h3,(yap.1 h4).1⟩
theorem Tryz.aA.one {t:TypeId} {sz n:Nat} {w:World} {b2:Nat} {v:Value} {cs:List Value} (h:aA t sz w b2 v n cs):v.oneCell'=true:=by
 obtain ⟨h1,h2⟩:=h;rcases h2 with ⟨rfl,h2⟩|⟨G,cap,cur,rfl,_⟩<;>rfl
theorem Tryz.aA.mono {t:TypeId} {sz n:Nat} {w:World} {b1 b2:Nat} {v:Value} {cs:List Value} (h:aA t sz w b2 v n cs) (hb:b1≤b2):aA t sz w b1 v n cs:=by
 obtain ⟨h1,h2⟩:=h;refine ⟨h1,?_⟩;rcases h2 with h2|⟨G,cap,cur,e,h3,h4⟩
 ·exact .inl h2
 ·exact .inr ⟨G,cap,cur,e,yaw hb h3,h4⟩
theorem Tryz.aA.nil (t:TypeId) (sz:Nat) (w:World) (b2:Nat):aA t sz w b2 (.slice none 0 0) 0 []:=⟨by simp,.inl ⟨rfl,rfl⟩⟩
theorem Tryz.aA.row {t:TypeId} {sz n:Nat} {w:World} {b2:Nat} {v:Value} {cs:List Value} (h:aA t sz w b2 v n cs): ∃sa c,v= .slice sa n c∧(cs= []∨ ∃G,sa=some ⟨G,0,none⟩∧v.ownBlock=some G∧w.rangeAt G 0 cs):=by
 obtain ⟨h1,h2⟩:=h;rcases h2 with ⟨rfl,h2⟩|⟨G,cap,cur,rfl,h3,h4,h5,h6,h7,h8⟩
 ·refine ⟨none,0,by rw [h2],.inl ?_⟩;rw [h2,Nat.zero_mul] at h1;exact ybn.1 h1
 ·refine ⟨_,cap,rfl,.inr ⟨G,rfl,rfl,fun i y hy=> ?_⟩⟩;have hlt:i<cs.length:=(yax.1 hy).1;rw [←h8] at hy;rw [ybw (by omega)] at hy;simp only [World.cell?,h4,yau];simpa using hy
structure Tryz.Pt where
 aD:Int
 a:Int
 ln:Int
 f:Int
 nx:Int
def Tryz.Pt.cells (p:Pt):List Value:= [.int .i64 p.aD,.int .u64 p.a,.int .u32 p.ln,.int .u16 p.f,.int .u16 p.nx]
def Tryz.qL (ps:List Pt):List Value:=ps.flatMap Pt.cells
def Tryz.Vi (n k i e x9 x10:Int) (x:Sg) (iv sv ov:Value):Val:=cB [n,k,i,x.aP,x.len,0,0,e,0,x9,x10] [x.wr] [iv,sv,ov]
structure Tryz.SpD (ρ:Val) (n k i e x9 x10:Int) (x:Sg) (iv sv ov:Value):Prop where
 d0:(ah 0).den ρ=n
 d1:(ah 1).den ρ=k
 d2:(ah 2).den ρ=i
 d3:(aj 3).den ρ=x.aP
 d4:(aW 4).den ρ=x.len
 i7:ρ.i 7=e
 i9:ρ.i 9=x9
 i10:ρ.i 10=x10
 b0:ρ.b 0=x.wr
 v0:ρ.v 0=iv
 v1:ρ.v 1=sv
 v2:ρ.v 2=ov
theorem Tryz.spD {n k i e x9 x10:Int} {x:Sg} {iv sv ov:Value} (hn:0≤n∧n<64000) (hk:0≤k∧k<64000) (hi:0≤i∧i<64000) (hx:x.ok):SpD (Vi n k i e x9 x10 x iv sv ov) n k i e x9 x10 x iv sv ov:=
 ⟨dK hn.1 (by show n<_;omega),dK hk.1 (by show k<_;omega),dK hi.1 (by show i<_;omega),fM hx.1 hx.2.1,lU hx.2.2.1 hx.2.2.2,rfl,rfl,rfl,rfl,rfl,rfl,rfl⟩
theorem Tryz.Vt:(⟨0,1,false⟩:Sg).ok:=⟨by decide,by decide,by decide,by decide⟩
def Tryz.rY (l:List Sg):Int:=if gH l=0∧l.length=0 then 2 else gH l
theorem Tryz.zxJ {A:Nat→Prop} {w:World} {v:Value} {l:List Sg} (h:aX A w v l) (hl:l.length≤60000):
  Calls prog 54 #[v] w fun e w'=>e= .returned (.int .i64 (rY l))∧Below w.heap.size w w':=by
 have h0:=h;obtain ⟨sa,c,rfl,hok,hr⟩:=h;obtain ⟨F0,QA,hF1⟩:=ztV h0;have D:=spD (n:=l.length) (k:=0) (i:=0) (e:=gH l) (x9:=0) (x10:=0) (x:=⟨0,1,false⟩) (iv:=undef) (sv:= .slice sa l.length c) (ov:=undef) (by omega) (by omega) (by omega) Vt;generalize Vi l.length 0 0 (gH l) 0 0 ⟨0,1,false⟩ undef (.slice sa l.length c) undef=ρ at D;refine yaq (zap (ρ:=ρ) (K:=fun _=>False) (g:=FM sa l) (bl:= []) (vals:= [.slice sa l.length c]) mixed zCL zEP (fun b h=>h.elim) trivial trivial ⟨F0,QA,hF1⟩
  ⟨iQ (Dw.enters_of (by kernel_rfl)) (by decide) [.slice sa l.length c] (.int .i64 (gH l)) (fun j=>af (Vb D.v1 D.d0) RL.nil) (fun j=>ai D.i7) fun w F q h=>H9 (uO.v h hok c),trivial⟩ (af (Vb D.v1 D.d0) RL.nil) (aR.2 trivial)) fun e w' hh=> ?_
 obtain ⟨p,hpm,hto,lf,hlf,j,he⟩:=hh;have hb:=gF he (fun _ h=>h);unfold U2 at hpm;simp only [yad,yag,yaB] at hpm;unfold rY;rcases hpm with rfl|rfl|rfl
 all_goals
  simp only [aH,aR,iI,gV,aC,D.i7,D.d0,ya7,yaH,ycX,yaN] at hto;cases hlf
 ·rw [yaj ⟨hto.1,by omega⟩];exact ⟨he.ret,hb⟩
 ·rw [yai (by omega)];exact ⟨he.ret.trans (by simp only [AV.val,gV,D.i7]),hb⟩
 ·rw [yai (fun h=>hto h.1)];exact ⟨he.ret.trans (by simp only [AV.val,gV,D.i7]),hb⟩
def Tryz.bytesOf (v:Int) (n:Nat):List Int:=(List.range n).map fun i=>v/2^(8*i)%256
theorem Tryz.zpl (v:Int) (n:Nat):bytesOf v (n+1)=bytesOf v n++ [v/2^(8*n)%256]:=by simp [bytesOf,List.range_succ]
theorem Tryz.vQ (v:Int) (n:Nat):(bytesOf v n).length=n:=by simp [bytesOf]
theorem Tryz.Nv (v:Int) (n:Nat): ∀x∈bytesOf v n,0≤x∧x<256:=fun x hx=>by
 obtain ⟨i,_,rfl⟩:=ya2.1 hx;exact ⟨ybP _ (by decide),ybF _ (by decide)⟩
def Tryz.gW (xs:List Int):List Value:=xs.map fun x=> .int .u8 x
theorem Tryz.zFm:(prog.info? 5).map (fun i=>(i.zero,i.size,i.bytes))=some (some (.int .u8 0),1,1):=by kernel_rfl
set_option maxRecDepth 100000 in
theorem Tryz.zzk {w:World} {b2:Nat} {b:Value} {xs:List Int} {v:Int} {n:Nat} (h:aA 5 1 w b2 b xs.length (gW xs)) (hb2:b2≤w.heap.size) (hn:n≤8) (hx:xs.length≤10000):
    Calls prog 80 #[b,.int .u64 v,.int .i64 n] w fun e w'=> ∃u,e= .returned u∧aA 5 1 w' b2 u (xs++bytesOf v n).length (gW (xs++bytesOf v n))∧Below b2 w w'∧Dw.Mv (fun y=>b.ownBlock=some y) w w'∧(∀y,u.ownBlock=some y→b.ownBlock=some y∨w.heap.size≤y):=by
  have hinfo:=zFm;cases hi:prog.info? 5 with
  | none=>rw [hi] at hinfo;cases hinfo
  | some i=>
  rw [hi] at hinfo;simp only [yaK,ycd,ycH] at hinfo;obtain ⟨i1,i2,i3⟩:=hinfo;go_enter func80,ntmps80;go_wp2;go_loopw [0,7] (fun c k wr=> ∃(q:Nat) (cv:Value),cv=c∧q≤n∧k= .int .i64 q∧aA 5 1 wr b2 cv (xs++bytesOf v q).length (gW (xs++bytesOf v q))∧Below b2 w wr∧Dw.Mv (fun y=>b.ownBlock=some y) w wr∧(∀y,cv.ownBlock=some y→b.ownBlock=some y∨w.heap.size≤y)) (fun _ k _=>n-(RowKit.intOf k).toNat)
  case atStart=>exact ⟨0,_,rfl,yaE _,rfl,by simpa [bytesOf] using h,yah _ _,Dw.Mv.refl _ _,fun y hy=> .inl hy⟩
  case round=>
    obtain ⟨q,cv,hcv,hq,rfl,ho,hb,hm,hown⟩:=hrel;subst hcv;by_cases hqn:q<n
    · have hw8:=wrap_u8 (v/2^(8*q));have hsz:=hb.size;have hol:=aA.lt ho;have ho2: ∀t,(wr.alloc (.cells #[.int .u8 (v/2^(8*q)%256)] t)).ownsRow b2 5 1 cv (xs++bytesOf v q).length (gW (xs++bytesOf v q)):=fun t=>aA.kept ho fun b e=>(ycx _ _).2 _ (hol b e).2;have hnew: ∀t j u,([Value.int .u8 (v/2^(8*q)%256)]:List Value)[j]? =some u→(wr.alloc (.cells #[.int .u8 (v/2^(8*q)%256)] t)).cell? ((⟨wr.heap.size,0,none⟩:Addr).add j)=some u:=fun t j u hu=>by
        rw [Dw.addr_add];exact (Cl.new wr #[.int .u8 (v/2^(8*q)%256)] t).cell (0+j) u (by rw [yau];exact hu)
      have hlen:(xs++bytesOf v q).length≤10010:=by rw [yaX,vQ];omega
      go_wp2_with (first
        | (at_builtin;go_loud (refine ycp _ rfl _ _ 55 rfl b2 5 i _ 1 1 (by kernel_rfl) hi i1 i2 i3 rfl (by decide) cv _ (gW (xs++bytesOf v q)) rfl (ho2 _) ⟨wr.heap.size,0,none⟩ 1 1 [.int .u8 (v/2^(8*q)%256)] rfl rfl (hnew _) (by intro y hy;rw [yaD] at hy;subst hy;rfl) (by unfold maxLen;omega) (by omega) (by simp;omega) ?_);intro u w' h2 h3 h4 h5;go_frame)
        | go_in)
      refine ⟨⟨q+1,u,rfl,by omega,by push_cast;rfl,?_,?_,?_,?_⟩,by simp only [RowKit.intOf];omega⟩
      · have e1:xs++bytesOf v (q+1)=(xs++bytesOf v q)++ [v/2^(8*q)%256]:=by rw [zpl,ybl]
        have e2:gW (xs++bytesOf v (q+1))=gW (xs++bytesOf v q)++ [.int .u8 (v/2^(8*q)%256)]:=by rw [e1];simp [gW]
        rw [e2,e1,yaX];exact h2
      · have hsz2:=h3.size;simp only [iP] at hsz2;exact ⟨h3.os.trans hb.os,h3.tape.trans hb.tape,h3.output.trans hb.output,by omega,fun y hy=>(h3.block y (by simp only [iP];omega) (fun e=>by have:=(hol y e.symm).1;omega)).trans (((ycx _ _).2 y (by omega)).trans (hb.block y hy))⟩
      · have hsz2:=h3.size;simp only [iP] at hsz2;have hms:=hm.size;exact ⟨h3.os.trans hm.os,h3.tape.trans hm.tape,h3.output.trans hm.output,by omega,fun y hy hn=>(h3.block y (by simp only [iP];omega) (fun e=>by
          rcases hown y e.symm with h|h
          · exact hn h
          · omega)).trans (((ycx _ _).2 y (by omega)).trans (hm.block y hy hn))⟩
      · intro y hy;have hms:=hm.size;rcases h5 with h5|h5
        · exact hown y (h5▸hy)
        · rw [hy] at h5;cases h5;right;simp only [iP];omega
    · have hqq:q=n:=by omega
      subst hqq;go_wp2;go_ret;exact ⟨_,rfl,ho,hb,hm,hown⟩
def Tryz.CG (k:Nat) (s:AV) (e:SE) (n:Int):aG:=⟨80,[s,.int .u64 e,.int .i64 (.lit n)],k,k+2,1,.opq (k+2) none,k+1⟩
def Tryz.zEQ:List aG:= [CG 0 .cO (aj 3) 8,CG 1 (.opq 2 none) (aW 4) 4,CG 2 (.opq 3 none) (aK 5) 2,CG 3 (.opq 4 none) (aK 6) 2]
def Tryz.Td (b2:Nat) (L:Nat→List Int):bg where
 fact k q F w:=match k with|0=>True|k+1=> ∃u,q (k+2)=some u∧aA 5 1 w b2 u (L (k+1)).length (gW (L (k+1)))∧ ∀b,u.ownBlock=some b→F b
 loc:=fun k q q' F w w' h hq hb hs=>by
  match k,h with
  | 0,_=>trivial
  | k+1,⟨u,h7,h8,h9⟩=>exact ⟨u,hq _ _ h7,aA.kept h8 fun b e=>hb b (h9 b e),h9⟩
theorem Tryz.I5 {ρ:Val} {w0:World} {K:Nat→Prop} {L:Nat→List Int} {k n:Nat} {s:AV} {e:SE} (hs:(k=0∧s= .cO)∨(0<k∧s= .opq (k+1) none)) (h0:L 0= []) (hL:L (k+1)=L k++bytesOf (e.den ρ) n) (hn:n≤8) (hl:(L k).length≤10000):
  jM prog ρ w0 K (Td w0.heap.size L) (CG k s e n):=by
 refine ⟨Dw.enters_of (by kernel_rfl),fun j w1 vals F m hv hnone hb hF hsz hf _=> ?_⟩;have hb:m=k+2:=hb (by show (1:Nat)≠0;decide);subst hb;obtain ⟨us,_,rfl,dG,hv⟩:=hv;obtain ⟨x1,_,rfl,e1,hv⟩:=hv;obtain ⟨x2,_,rfl,e2,hv⟩:=hv;have hv:_= []:=hv;subst hv;have e1:x1= .int .u64 (e.den ρ):=e1;have e2:x2= .int .i64 (n:Int):=e2;subst e1 e2;have hown:aA 5 1 w1 w0.heap.size us (L k).length (gW (L k))∧ ∀b,us.ownBlock=some b→F b:=by
  rcases hs with ⟨rfl,rfl⟩|⟨hk,rfl⟩
  ·have:us= .slice none 0 0:=dG;subst this;rw [h0];exact ⟨aA.nil _ _ _ _,fun b h=>by cases h⟩
  ·obtain ⟨k',rfl⟩: ∃k',k=k'+1:=⟨k-1,by omega⟩;obtain ⟨u,hq,ho,hF'⟩:=hf;have:us=u:=by
    obtain ⟨⟨Lq,hj,hu⟩,_⟩:=dG;unfold iE at hq;rw [hj] at hq;simp only [ybC] at hq;rw [hu] at hq;injection hq
   subst this;exact ⟨ho,hF'⟩
 obtain ⟨hown,QB⟩:=hown;refine yaq (zzk (v:=e.den ρ) hown hsz hn hl) fun en w' hh=> ?_;obtain ⟨u,rfl,hu,hbl,hmv,hou⟩:=hh;rw [←hL] at hu;refine ⟨_,[u],fun b=>F b∨u.ownBlock=some b,rfl,rfl,⟨⟨⟨0,0,0,some u⟩,?_,rfl⟩,aA.one hu,fun _ h=>(by cases h)⟩,⟨u,tV,hu,fun b hb=> .inr hb⟩,?_,hmv.mono fun b hb=>⟨QB b hb,.inl (aA.lt hown b hb).1⟩⟩
 ·show jq j (k+2) _ (k+2)=_;unfold jq;rw [yaj ⟨yab _,by simp⟩];simp
 ·rintro b (hb|hb)
  ·exact ⟨yae (hF b hb) hmv.size,.inl hb⟩
  ·refine ⟨(aA.lt hu b hb).2,?_⟩;rcases hou b hb with h|h
   ·exact .inl (QB b h)
   ·exact .inr h
def Tryz.Pt.bytes (p:Pt):List Int:=bytesOf p.a 8++bytesOf p.ln 4++bytesOf p.f 2++bytesOf p.nx 2
theorem Tryz.Pt.EH (p:Pt):p.bytes.length=16:=by simp [Pt.bytes,vQ]
theorem Tryz.Pt.Qe (p:Pt): ∀x∈p.bytes,0≤x∧x<256:=fun x hx=>by
 unfold Pt.bytes at hx;rw [yaR,yaR,yaR] at hx;rcases hx with ((h|h)|h)|h<;>exact Nv _ _ x h
structure Tryz.Pt.ok (p:Pt):Prop where
 a:0≤p.a∧p.a<18446744073709551616
 ln:0≤p.ln∧p.ln<4294967296
 f:0≤p.f∧p.f<65536
 nx:0≤p.nx∧p.nx<65536
theorem Tryz.VF (ps:List Pt):(qL ps).length=5*ps.length:=by
 induction ps with
 | nil=>rfl
 | cons p ps ih=>simp only [qL,ydo,yaX,ya6] at ih ⊢;rw [ih];simp [Pt.cells];omega
theorem Tryz.Xw: ∀(ps:List Pt) (k:Nat) (hk:k<ps.length) (j:Nat),j<5→(qL ps)[5*k+j]? =ps[k].cells[j]?
 | p::ps,0,_,j,hj=>by
  simp only [qL,ydo,Nat.mul_zero,yau,yc6];rw [yaV (by simp [Pt.cells];omega)]
 | p::ps,k+1,hk,j,hj=>by
  have:=Xw ps k (by simpa using hk) j hj;simp only [qL,ydo,ybB] at this ⊢;rw [yaW (by simp [Pt.cells];omega),←this];congr 1;simp [Pt.cells];omega
theorem Tryz.zzH {w:World} {G o:Nat} {ps:List Pt} (h:w.rangeAt G o (qL ps)) (k:Nat) (hk:k<ps.length):w.rangeAt G (o+5*k) ps[k].cells:=fun j v hv=>by
 have hj:j<5:=by
  have:=(yax.1 hv).1;simpa [Pt.cells] using this
 have:=h (5*k+j) v (by rw [Xw ps k hk j hj];exact hv);rw [show o+5*k+j=o+(5*k+j) by omega];exact this
end Go.Proofs
namespace Go.Proofs
open Go.Dw Go.RowKit
theorem Tryz.aX.set {A A':Nat→Prop} {w:World} {v:Value} {l:List Sg} (h:aX A w v l) (hA: ∀b,b<w.heap.size→A' b→A b):aX A' w v l:=by
 obtain ⟨sa,c,e,hok,hr⟩:=h;refine ⟨sa,c,e,hok,?_⟩;by_cases h0:l= []
 ·exact .inl h0
 ·rcases hr with hr|⟨R,o,e1,h1,h2⟩
  ·exact .inl hr
  ·exact .inr ⟨R,o,e1,fun h=>h1 (hA R (rZ h2 h0) h),h2⟩
open Go.Maps Go.Sort
structure Tryz.oU where
 q:Option Nat
 v:Value
 sz:Nat
 n:Nat
 cs:List Value
section
variable {X:Nat→Prop} {bX:Nat} {ρ:Val} {w0:World} {K:Nat→Prop} {S P L Bs B M N:Nat} {r:Tryz.Rg} {b2:Nat} {sk:Nat→Tryz.SS} {gk:Nat→Nat→Int} {rows:Nat→List Tryz.oU} {f:FuncId} {args:List AV} {res:AV} {k k':Nat}
end
end Go.Proofs
namespace Go.Proofs
open Go.Dw Go.RowKit Go.Maps Go.Sort
theorem Tryz.Vu:(prog.info? 3).map (fun i=>(i.zero,i.size,i.bytes))=some (some (.int .i64 0),1,8):=by kernel_rfl
section
variable {ρ:Val} {w0:World} {K:Nat→Prop} {X:Nat→Prop} {bX:Nat} {S P L Bs B M N:Nat} {r:Tryz.Rg} {b2:Nat} {sk:Nat→Tryz.SS} {gk:Nat→Nat→Int} {rows:Nat→List Tryz.oU} {k k' q:Nat}
end
end Go.Proofs
namespace Go.Proofs
open Go.Dw Go.RowKit Go.Maps Go.Sort Go.Deep
structure Tryz.Qb (a b:Bool):Prop where
 eq:a=b
theorem Tryz.UU {w wr:World} {R o:Nat} {l:List Sg} (hr:w.rangeAt R o (dV l)) (hb:Below w.heap.size w wr) {k:Nat} (hk:k<l.length):wr.cell? ⟨R,o+k*3,none⟩=some (.int .u64 l[k].aP)∧wr.cell? ⟨R,o+k*3+1,none⟩=some (.int .u32 l[k].len)∧wr.cell? ⟨R,o+k*3+2,none⟩=some (.bool l[k].wr):=by
 obtain ⟨d0,d1,d2⟩:=CX l k hk;have hRl:R<w.heap.size:=World.block_lt_of_cell? w _ (hr _ _ d1);refine ⟨?_,?_,?_⟩
 ·rw [ybE k 3];exact (hb.cell (p:=⟨R,o+3*k,none⟩) hRl).trans (hr _ _ d0)
 ·rw [show o+k*3+1=o+(3*k+1) by omega];exact (hb.cell (p:=⟨R,o+(3*k+1),none⟩) hRl).trans (hr _ _ d1)
 ·rw [show o+k*3+2=o+(3*k+2) by omega];exact (hb.cell (p:=⟨R,o+(3*k+2),none⟩) hRl).trans (hr _ _ d2)
set_option maxRecDepth 100000 in
theorem Tryz.Z7 {A B:Nat→Prop} {w:World} {v1 v2:Value} {l1 l2:List Sg} (h1:aX A w v1 l1) (h2:aX B w v2 l2) (hl:l1.length<4000000) (hl2:l2.length<4000000):
  Calls prog 15 #[v1,v2] w fun e w'=>e= .returned (.bool (decide (l1=l2)))∧Below w.heap.size w w':=by
 obtain ⟨sa,c,rfl,hok,hr⟩:=h1;obtain ⟨sb,d,rfl,hok2,hr2⟩:=h2;by_cases hlen:l1.length=l2.length
 ·obtain ⟨z,hz⟩: ∃z,Qb z (decide (l1=l2)):=⟨_,⟨rfl⟩⟩;rw [←hz.eq];obtain ⟨m,hm⟩: ∃m,m=l1.length:=⟨_,rfl⟩;rw [←hlen,←hm];have hm1:l1.length≤m∧m≤l1.length:=by omega
  have hm2:l2.length≤m∧m≤l2.length:=by omega
  clear hm hlen;go_enter func15,ntmps15;go_wp2_with fail;go_loopw [5] (fun i wr=>Below w.heap.size w wr∧ ∃k:Nat,k≤m∧i= .int .i64 k∧l1.take k=l2.take k) (fun i _=>m-(RowKit.intOf i).toNat)
  case atStart=>exact ⟨yah _ _,0,yaE _,rfl,rfl⟩
  case round=>
   obtain ⟨hb,k,hk,rfl,hall⟩:=hrel;by_cases hkm:k<m
   ·have KT:(k:Int)<m:=by omega
    have k1:k<l1.length:=by omega
    have k2:k<l2.length:=by omega
    rcases hr with hr|⟨R,o,rfl,EX,hr⟩
    ·subst hr;simp at k1
    rcases hr2 with hr2|⟨R2,o2,rfl,abW,hr2⟩
    ·subst hr2;simp at k2
    obtain ⟨f0,f1,f2⟩:=UU hr hb k1;obtain ⟨g0,g1,g2⟩:=UU hr2 hb k2;have ht:l1[k]=l2[k]→l1.take (k+1)=l2.take (k+1):=fun e=>by rw [ybp k1,ybp k2,hall,e]
    have hne:l1[k]≠l2[k]→ ¬l1=l2:=fun e q=>e (by subst q;rfl);clear hr hr2;generalize l1[k]=x1 at*;generalize l2[k]=x2 at*;obtain ⟨a1,n1,t1⟩:=x1;obtain ⟨a2,n2,t2⟩:=x2;by_cases he:a1=a2∧n1=n2∧t1=t2
    ·obtain ⟨rfl,rfl,rfl⟩:=he;have ht:=ht rfl;clear hne;go_wp2_with fail;go_quiet (fail);go_wp2;exact ⟨⟨below_drewN hb _,k+1,by omega,by push_cast;rfl,ht trivial⟩,by simp only [RowKit.intOf];omega⟩
    ·have qD:=hz.eq;rw [yar (hne fun q=>he (by cases q;exact ⟨rfl,rfl,rfl⟩))] at qD;subst qD;clear hz ht hne;have h3: ¬a1=a2∨ ¬n1=n2∨ ¬t1=t2:=by
      by_cases q1:a1=a2
      ·by_cases q2:n1=n2
       ·exact .inr (.inr fun q3=>he ⟨q1,q2,q3⟩)
       ·exact .inr (.inl q2)
      ·exact .inl q1
     clear he;rcases h3 with h|h|h
     all_goals
      have hbf:=beq_false_of_ne h;go_wp2_with fail;go_quiet (fail);go_wp2;go_ret;exact ⟨rfl,below_drewN hb _⟩
   ·have KT: ¬(k:Int)<m:=by omega
    have:k=m:=by omega
    subst this;have:l1=l2:=by rw [yb4 hm1.1,yb4 hm2.1] at hall;exact hall
    have qD:=hz.eq;rw [yaG this] at qD;subst qD;clear hz;go_wp2;go_ret;exact ⟨rfl,hb⟩
 ·have hn: ¬l1=l2:=fun q=>hlen (by rw [q]);rw [yar hn];have hne: ¬(l1.length:Int)=l2.length:=by omega
  go_enter func15,ntmps15;go_wp2_with fail;go_ret;exact ⟨rfl,yah _ _⟩
def Tryz.wP (w:World) (v:Value) (xs:List Int):Prop:=
 ∃ (sa:Option Addr) (c:Nat),v= .slice sa xs.length c∧(xs= []∨ ∃R o,sa=some ⟨R,o,none⟩∧w.rangeAt R o (dx xs))
theorem Tryz.Ux {w wr:World} {R o:Nat} {l:List Int} (hr:w.rangeAt R o (dx l)) (hb:Below w.heap.size w wr) {k:Nat} (hk:k<l.length):wr.cell? ⟨R,o+k,none⟩=some (.int .i64 l[k]):=by
 have h:=hr k (.int .i64 l[k]) (by simp [dx,hk]);exact (hb.cell (p:=⟨R,o+k,none⟩) (World.block_lt_of_cell? w _ h)).trans h
set_option maxRecDepth 100000 in
theorem Tryz.zvM {w:World} {v1 v2:Value} {l1 l2:List Int} (h1:wP w v1 l1) (h2:wP w v2 l2) (hl:l1.length<4000000) (hl2:l2.length<4000000):
  Calls prog 48 #[v1,v2] w fun e w'=>e= .returned (.bool (decide (l1=l2)))∧Below w.heap.size w w':=by
 obtain ⟨sa,c,rfl,hr⟩:=h1;obtain ⟨sb,d,rfl,hr2⟩:=h2;by_cases hlen:l1.length=l2.length
 ·obtain ⟨z,hz⟩: ∃z,Qb z (decide (l1=l2)):=⟨_,⟨rfl⟩⟩;rw [←hz.eq];obtain ⟨m,hm⟩: ∃m,m=l1.length:=⟨_,rfl⟩;rw [←hlen,←hm];have hm1:l1.length≤m∧m≤l1.length:=by omega
  have hm2:l2.length≤m∧m≤l2.length:=by omega
  clear hm hlen;go_enter func48,ntmps48;go_wp2_with fail;go_loopw [5] (fun i wr=>Below w.heap.size w wr∧ ∃k:Nat,k≤m∧i= .int .i64 k∧l1.take k=l2.take k) (fun i _=>m-(RowKit.intOf i).toNat)
  case atStart=>exact ⟨yah _ _,0,yaE _,rfl,rfl⟩
  case round=>
   obtain ⟨hb,k,hk,rfl,hall⟩:=hrel;by_cases hkm:k<m
   ·have KT:(k:Int)<m:=by omega
    have k1:k<l1.length:=by omega
    have k2:k<l2.length:=by omega
    rcases hr with hr|⟨R,o,rfl,hr⟩
    ·subst hr;simp at k1
    rcases hr2 with hr2|⟨R2,o2,rfl,hr2⟩
    ·subst hr2;simp at k2
    have f0:=Ux hr hb k1;have g0:=Ux hr2 hb k2;have ht:l1[k]=l2[k]→l1.take (k+1)=l2.take (k+1):=fun e=>by rw [ybp k1,ybp k2,hall,e]
    have hne:l1[k]≠l2[k]→ ¬l1=l2:=fun e q=>e (by subst q;rfl);clear hr hr2;generalize l1[k]=x1 at*;generalize l2[k]=x2 at*;by_cases he:x1=x2
    ·subst he;have ht:=ht rfl;clear hne;go_wp2_with fail;go_quiet (fail);go_wp2;exact ⟨⟨below_drewN hb _,k+1,by omega,by push_cast;rfl,ht trivial⟩,by simp only [RowKit.intOf];omega⟩
    ·have qD:=hz.eq;rw [yar (hne he)] at qD;subst qD;clear hz ht hne;have hbf:=beq_false_of_ne he;go_wp2_with fail;go_quiet (fail);go_wp2;go_ret;exact ⟨rfl,below_drewN hb _⟩
   ·have KT: ¬(k:Int)<m:=by omega
    have:k=m:=by omega
    subst this;have:l1=l2:=by rw [yb4 hm1.1,yb4 hm2.1] at hall;exact hall
    have qD:=hz.eq;rw [yaG this] at qD;subst qD;clear hz;go_wp2;go_ret;exact ⟨rfl,hb⟩
 ·have hn: ¬l1=l2:=fun q=>hlen (by rw [q]);rw [yar hn];have hne: ¬(l1.length:Int)=l2.length:=by omega
  go_enter func48,ntmps48;go_wp2_with fail;go_ret;exact ⟨rfl,yah _ _⟩
end Go.Proofs
namespace Go.Proofs
open Go.Dw Go.RowKit
theorem Tryz.zpm (v:Int) (n i:Nat) (h:i<n):(bytesOf v n).getD i 0=v/2^(8*i)%256:=by
 simp [bytesOf,h]
open Go.Maps Go.Sort
section
variable {X:Nat→Prop} {bX:Nat} {ρ:Val} {w0:World} {K:Nat→Prop} {S P L Bs B M N:Nat} {r:Tryz.Rg} {b2:Nat} {sk:Nat→Tryz.SS} {gk:Nat→Nat→Int} {rows:Nat→List Tryz.oU} {f:FuncId} {args:List AV} {res:AV} {k k':Nat}
end
end Go.Proofs
namespace Go.Proofs
open Go.Dw Go.RowKit Go.Maps Go.Sort Go.Deep
theorem Tryz.iq {fn:Func} {p u:Tmp} {ty:TypeId} (h:fn.results= #[.cell p ty,.tmp u]) (tmps:Array Value) (w:World) (b:Nat) (cs:List Value) (d:TypeDesc)
  (hp:tmps.getD p undef= .pointer (some ⟨b,0,none⟩)) (hg:w.rangeAt b 0 cs) (hu:prog.underlying ty=some d) (hd:d.isRow=true) (hi:(prog.info? ty).map (·.size)=some cs.length):
  (results fn tmps).run prog w= .ok (.tuple #[.agg cs.toArray,tmps.getD u undef]) w:=by
 have hp':tmps[p]?.getD undef= .pointer (some ⟨b,0,none⟩):=by simpa using hp
 simp [results,h,hp',asAddr,run_loadVar_mid w b 0 ty cs d hg hu hd hi]
end Go.Proofs
namespace Go.Proofs
open Go.Dw Go.RowKit Go.Maps Go.Sort
section
variable {X:Nat→Prop} {bX:Nat} {ρ:Val} {w0:World} {K:Nat→Prop} {S P L Bs B M N:Nat} {r:Tryz.Rg} {b2:Nat} {sk:Nat→Tryz.SS} {gk:Nat→Nat→Int} {rows:Nat→List Tryz.oU} {f:FuncId} {args:List AV} {res:AV} {k k':Nat}
end
end Go.Proofs
namespace Go.Proofs
open Go.Dw Go.RowKit Go.Maps Go.Sort
theorem Tryz.zvk {P0:Program} (w:World) (base:Nat) (t ty e t0:TypeId) (i:TypeInfo) (z:Value) (size bytes:Nat) (ht:P0.underlying t=some (.slice e)) (hi:P0.info? e=some i) (hz:i.zero=some z)
  (hsize:i.size=size) (hby:i.bytes=bytes) (hzs:z.cells.size=size) (hsz:0<size)
  (v:Value) (n:Nat) (xs:List Value) (hown:w.ownsRow base t0 size v n xs)
  (a:Addr) (m c:Nat) (news:List Value) (hl:news.length=m*size) (hnews: ∀j u,news[j]? =some u→w.cell? (a.add j)=some u) (h1: ∀u∈news,u.oneCell'=true)
  (h63:n+m≤maxLen) (hbytes:(n+m)*bytes≤140737488355328) (hbase:base≤w.heap.size):
  ∃ v' w' t',(Builtin.append_ #[t,t] ty #[v,.slice (some a) m c]).run P0 w= .ok v' w'∧w'.ownsRow base t' size v' (n+m) (xs++news)∧w.grownBy w' v.ownBlock∧(v'.ownBlock=v.ownBlock∨v'.ownBlock=some w.heap.size):=by
 have hsmall:n+m≤9223372036854775807:=by simp only [maxLen] at h63;omega
 have hlen:(xs++news).length=(n+m)*size:=by rw [yaX,hown.1,hl,ybI]
 rcases hown.2 with ⟨rfl,rfl⟩|⟨g,cap,cur,rfl,hbg,hg,hnc,hcm,hcs,htake⟩
 ·obtain ⟨v',w',q1,q2,q3,_,q5⟩:=ydy (P:=P0) w base t ty e i z size bytes ht hi hz hsize hby hzs hsz (.slice none 0 0) 0 xs ⟨hown.1,.inl ⟨rfl,rfl⟩⟩ a m c news hl hnews h1 h63 hbytes hbase;exact ⟨v',w',e,q1,q2,q3,q5⟩
 ·subst hsize;subst hby;by_cases hroom:n+m≤cap
  ·have hfit:n*i.size+news.length≤cur.size:=by rw [hl,hcs,←ybI];exact ybc _ hroom
   have hf:=run_firstCells_some (P:=P0) w i.size m a m c news hl hnews;have hst:=ydx P0 g (n*i.size) t0 news 0 cur w hg (by simpa using hfit) h1;simp only [ybk] at hst;have hr:(Builtin.append_ #[t,t] ty #[.slice (some ⟨g,0,none⟩) n cap,.slice (some a) m c]).run P0 w= .ok (.slice (some ⟨g,0,none⟩) (n+m) cap) (w.setRow g (cur.toList.take (n*i.size)++news++cur.toList.drop (n*i.size+news.length)).toArray):=by
    simp [Builtin.append_,run_underlying ht,sizeOf,typeInfo,hi,Builtin.lenOf,hroom,hf,Addr.add_lit,hst]
   refine ⟨_,_,t0,hr,⟨hlen,.inr ⟨g,cap,_,rfl,hbg,setRow_heap w g cur _ t0 _ hg,hroom,hcm,?_,?_⟩⟩,⟨rfl,rfl,rfl,by simp,fun k _ hk=>setRow_other w g k _ (fun e=>hk (by simp [Value.ownBlock,e]))⟩,Or.inl rfl⟩
   ·simp only [yce,yaX,ybD,ycE,yba];omega
   ·rw [htake,←hlen];exact ydN
  ·have holds: ∀j u,xs[j]? =some u→w.cell? ((⟨g,0,none⟩:Addr).add j)=some u:=hown.cells (g:=g) rfl;have hr:=run_append_grow (P:=P0) w t ty e i z ht hi hz ⟨g,0,none⟩ n cap xs hown.1 holds a m c news hl hnews (by omega) (by omega) (growslice_fits (by omega) hbytes);have hge:=grownCap_ge w (n+m) cap e;have hcm2:grownCap w (n+m) cap e≤maxLen:=grownCap_le_maxLen w (n+m) cap e h63;refine ⟨_,_,e,hr,⟨hlen,.inr ⟨w.heap.size,_,_,rfl,hbase,ydh w.drew _,hge,hcm2,?_,?_⟩⟩,⟨rfl,rfl,rfl,by simp,fun k hk _=>ycD w.drew _ (h:=hk)⟩,Or.inr rfl⟩
   ·simp only [yc1,yce,size_zeroCells,hzs,hown.1,hl,←ybI];congr 1;omega
   ·simp only [Array.toList_append,ybl];rw [←ybl,←hlen];exact ydN
section
variable {X:Nat→Prop} {bX:Nat} {ρ:Val} {w0:World} {K:Nat→Prop} {S P L Bs B M N:Nat} {r:Tryz.Rg} {b2:Nat} {sk:Nat→Tryz.SS} {gk:Nat→Nat→Int} {rows:Nat→List Tryz.oU} {k k' q:Nat}
end
end Go.Proofs
namespace Go.Proofs
open Go.Dw Go.RowKit Go.Maps Go.Sort Go.Deep Go.ChangeShapes Go.WideShapes
section
variable {H:Type} {enc:TypeId×Value→H} {W:World} {sp:Nat→Bool} {held:Bool} {fuel:Nat}
theorem Tryz.PL {α:Type} {p:Nat→α→Prop}: ∀n,(∀i,i<n→ ∃x,p i x)→ ∃l:List α,l.length=n∧ ∀(i:Nat) (hi:i<l.length),p i l[i]
 | 0,_=>⟨[],rfl,fun i hi=>absurd hi (Nat.not_lt_zero i)⟩
 | n+1,h=>by
  obtain ⟨l,hl,hp⟩:=PL n fun i hi=>h i (by omega);obtain ⟨x,hx⟩:=h n (by omega);refine ⟨l++ [x],by simp [hl],fun i hi=> ?_⟩;by_cases hlt:i<l.length
  ·rw [ybR hlt];exact hp i hlt
  ·have e:i=n:=by simp at hi;omega
   subst e;simp only [ybJ (by omega:l.length≤i),hl,yb8,List.getElem_singleton];exact hx
theorem Tryz.addr_add (b o n:Nat):(⟨b,o,none⟩:Addr).add n=⟨b,o+n,none⟩:=by
 unfold Addr.add;split
 ·rename_i h;rw [h];rfl
 ·rfl
theorem Tryz.Ay {α:Type} {l:List α} {i:Nat} (h:i<l.length):l[i]? =some l[i]:=yao h
set_option maxRecDepth 100000 in
theorem Tryz.zy5 {cs:List Value} {x:DataW H×List MemPlace} (h:DataW.trod enc prog W 0 sp held fuel 43 cs=some x): ∃s:Sg,cs=s.cells∧s.ok:=by
 obtain ⟨xs,n,rfl,rfl,hl,hx,hf⟩:=ydz underlying43 h;have hl:cs.length=3:=hl.trans (by kernel_rfl);have hx:xs.length=3:=hx
 match cs,hl with
 | [c0,c1,c2],_=>
  have f0:DataW.trod enc prog W 0 sp held n 29 [c0]=xs[0]? :=by
   have:=(show DataW.trod enc prog W 0 sp held n 29 (([c0,c1,c2].drop 0).take (prog.cellsOf 29))=xs[0]? from hf 0 _ rfl);rw [show prog.cellsOf 29=1 from by kernel_rfl] at this;exact this
  have f1:DataW.trod enc prog W 0 sp held n 41 [c1]=xs[1]? :=by
   have:=(show DataW.trod enc prog W 0 sp held n 41 (([c0,c1,c2].drop 1).take (prog.cellsOf 41))=xs[1]? from hf 1 _ rfl);rw [show prog.cellsOf 41=1 from by kernel_rfl] at this;exact this
  have f2:DataW.trod enc prog W 0 sp held n 4 [c2]=xs[2]? :=by
   have:=(show DataW.trod enc prog W 0 sp held n 4 (([c0,c1,c2].drop 2).take (prog.cellsOf 4))=xs[2]? from hf 2 _ rfl);rw [show prog.cellsOf 4=1 from by kernel_rfl] at this;exact this
  rw [Ay (by omega)] at f0 f1 f2;obtain ⟨n0,e0,_,w0⟩:=ybK underlying29 f0;obtain ⟨n1,e1,_,w1⟩:=ybK underlying41 f1;obtain ⟨b,e2,_⟩:=DataW.trod_bool underlying4 f2;simp only [yaM,yaN] at e0 e1 e2;subst e0 e1 e2;have b0:=bounds_u64 w0;have b1:=bounds_u32 w1;exact ⟨⟨n0,n1,b⟩,rfl,by show 0≤n0;omega,by show n0<_;omega,by show 0≤n1;omega,by show n1<_;omega⟩
theorem Tryz.XL {R:Nat}: ∀ {l:List Sg} {o:Nat},(∀(i:Nat) (hi:i<l.length),W.rangeAt R (o+3*i) l[i].cells)→W.rangeAt R o (dV l)
 | [], o,_=>fun j v hv=>by simp [dV] at hv
 | x::r,o,h=>fun j v hv=>by
  have h0:=h 0 (by simp);have hr:=XL (R:=R) (l:=r) (o:=o+3) fun i hi=>by
   have:=h (i+1) (by simpa using hi);rw [show o+3*(i+1)=o+3+3*i by omega] at this;simpa using this
  have hv:(x.cells++dV r)[j]? =some v:=hv;by_cases hj:j<3
  ·rw [yaV (by simpa [Sg.cells] using hj)] at hv;exact h0 j v hv
  ·rw [yaW (by simp [Sg.cells];omega)] at hv;have:=hr (j-3) v hv;rw [show o+3+(j-3)=o+j by omega] at this;exact this
set_option maxRecDepth 100000 in
theorem Tryz.zvK {v:Value} {x:DataW H×List MemPlace} (h:DataW.trod enc prog W 0 sp held fuel 40 [v]=some x) (hw: ∀n∈x.1.weights prog 40,n≤reachBytes):
  ∃ l,aX (fun _=>False) W v l∧l.length<4000000000000000:=by
 rcases DataW.trod_slice underlying40 h with ⟨e,_⟩|⟨a,len,cap,elems,rest,n,rfl,e,rfl,_,hlc,hcap,hel,hc,_⟩
 ·simp only [yaM,yaN] at e;subst e;exact ⟨[],aX.none,by decide⟩
 ·simp only [yaM,yaN] at e;subst e;have hb:prog.bytesOf 43=16:=by kernel_rfl
  have hsz:=hw ((elems.length+rest.length)*16) (by
   unfold DataW.weights;rw [underlying40];simp [hb])
  unfold reachBytes at hsz;obtain ⟨l,hll,hl⟩:=PL (p:=fun i (s:Sg)=>W.cells? 0 (a.add (i*3)) 3=some s.cells∧s.ok) len fun i hi=>by
   have:=hc i hi;rw [Ay (by omega)] at this;obtain ⟨cs,h1,h2⟩:=yc2.1 this;obtain ⟨s,rfl,hs⟩:=zy5 h2;exact ⟨s,h1,hs⟩
  subst hll;refine ⟨l,⟨some a,cap,rfl,fun s hs=> ?_,?_⟩,by omega⟩
  ·obtain ⟨i,hi,rfl⟩:=ycg.1 hs;exact (hl i hi).2
  ·by_cases h0:l= []
   ·exact .inl h0
   ·right;obtain ⟨ab,ao,aq⟩:=a;have hp:0<l.length:=ybq.2 h0;have hs:aq=none:=cell_spot ((yc3 (hl 0 hp).1).2.2 0 (by decide));subst hs;refine ⟨ab,ao,rfl,fun h=>h,XL fun i hi j y hy=> ?_⟩;have hj:j<3:=by
     have:=yax.1 hy;simpa [Sg.cells] using this.1
    have:=(yc3 (hl i hi).1).2.2 j hj;rw [hy,addr_add,addr_add] at this;rw [show ao+3*i+j=ao+i*3+j by omega];exact this
end
end Go.Proofs
namespace Go.Proofs
open Go.Dw Go.RowKit Go.Maps Go.Sort Go.Deep Go.ChangeShapes Go.WideShapes
section
variable {H:Type} {enc:TypeId×Value→H} {W:World} {sp:Nat→Bool} {held:Bool} {fuel:Nat}
end
end Go.Proofs
namespace Go.Proofs
open Go.Dw Go.RowKit Go.Maps Go.Sort Go.Deep Go.ChangeShapes Go.WideShapes
section
variable {H:Type} {enc:TypeId×Value→H} {W:World} {sp:Nat→Bool} {held:Bool} {fuel:Nat}
end
end Go.Proofs
namespace Go.Proofs
open Go.Dw Go.RowKit Go.Maps Go.Sort
section
variable {W0:World} {H4 X11 S P L Bs B M:Nat} {r:Tryz.Rg} {av ov:Value} {ls:List (List Tryz.Sg)} {s:Tryz.SS} {g:Nat→Int} {hs:List Int} {bs:List (List Tryz.Sg)} {next:Int} {vh:Value} {i:Nat} {a:Act} {w:World}
end
end Go.Proofs
namespace Go.Proofs
open Go.Dw Go.RowKit Go.Maps Go.Sort Go.Deep
theorem Tryz.rT {P0:Program} {w:World} {ops:Array Oper} {o:Oper} {a:Act} {K:Act→World→Prop} {Q:Exit→Act→World→Prop} {E:Prop} (hgd:o.guard=none) (s x:Operand) (t:TypeId)
  (ho:o.op= .call { callee:= .builtin .append,args:= #[s,x],argTypes:= #[t,t] })
  (base:Nat) (e t0:TypeId) (i:TypeInfo) (z:Value) (size bytes:Nat) (ht:P0.underlying t=some (.slice e)) (hi:P0.info? e=some i) (hz:i.zero=some z)
  (hsize:i.size=size) (hby:i.bytes=bytes) (hzs:z.cells.size=size) (hsz:0<size)
  (v:Value) (n:Nat) (xs:List Value) (hs:a.eval s=v) (hown:w.ownsRow base t0 size v n xs)
  (sa:Option Addr) (ad:Addr) (hsa:sa=some ad) (m c:Nat) (news:List Value) (hx:a.eval x= .slice sa m c) (hl:news.length=m*size) (hnews: ∀j u,news[j]? =some u→w.cell? (ad.add j)=some u) (h1: ∀u∈news,u.oneCell'=true)
  (h63:n+m≤maxLen) (hbytes:(n+m)*bytes≤140737488355328) (hbase:base≤w.heap.size)
  (h: ∀v' w' t',w'.ownsRow base t' size v' (n+m) (xs++news)→w.grownBy w' v.ownBlock→(v'.ownBlock=v.ownBlock∨v'.ownBlock=some w.heap.size)→K (a.put o.dst v') w'):
  if Region.wanted o (yielded ops a.tmps)=true then Oper.wp P0 o a w K Q else E:=by
 subst hsa;have hw:Region.wanted o (yielded ops a.tmps)=true:=by simp [Region.wanted,hgd]
 rw [yaj hw];obtain ⟨v',w',t',hr,h2,h3,h4⟩:=zvk (P0:=P0) w base t o.type e t0 i z size bytes ht hi hz hsize hby hzs hsz v n xs hown ad m c news hl hnews h1 h63 hbytes hbase;unfold Oper.wp execOp;simp only [ho,resolve,invoke,builtin,yaf,yak,yaa,List.map_toArray,yaJ,yaZ,hs,hx,hr];exact h v' w' t' h2 h3 h4
theorem Tryz.Wm: ∀(l:List Sg) (i:Nat) (hi:i<l.length),(dV l)[i*3]? =some (.int .u64 l[i].aP)∧(dV l)[i*3+1]? =some (.int .u32 l[i].len)
 | x::r,0,_=>⟨rfl,rfl⟩
 | x::r,i+1,hi=>by
  have h:=Wm r i (by simp at hi;omega);rw [MN,show (i+1)*3=i*3+1+1+1 by omega];simpa using h
set_option maxRecDepth 100000 in
theorem Tryz.zCE {A:Nat→Prop} {w:World} {P L Bs B N:Nat} {g:Nat→Int} {v:Value} {l:List Sg} (st:bP w P L Bs B N g) (hN:N≤1048576) (h:aX A w v l) (hl:l.length≤100000):
    Calls prog 162 #[.pointer (some ⟨P,0,none⟩),v] w fun e w'=>e= .returned (.int .i64 (nR N l))∧Below w.heap.size w w':=by
  have hck:=H9 h;obtain ⟨sa,c,rfl,hok,hr⟩:=h;go_enter func162,ntmps162;go_wp2_with (first
    | (go_at_call 83;refine hck.mono ?_;rintro en w1 ⟨rfl,hb1⟩)
    | go_in)
  go_loopw [5,6] (fun e i w2=>Below w.heap.size w w2∧ ∃(k:Nat) (x:Int),k≤l.length∧i= .int .i64 k∧e= .int .i64 x∧((¬x=0∧x=nR N l)∨(x=0∧gH l=0∧ ∀(j:Nat) (hj:j<l.length),j<k→1≤l[j].len∧l[j].aP+l[j].len≤N))) (fun e i _=>if RowKit.intOf e=0 then l.length+1-(RowKit.intOf i).toNat else 0)
  case atStart=>
    refine ⟨hb1,0,gH l,yaE _,rfl,rfl,?_⟩;by_cases he:gH l=0
    · exact .inr ⟨he,he,fun j _ hj=>absurd hj (by omega)⟩
    · exact .inl ⟨he,by unfold nR;rw [yai he]⟩
  case round=>
    obtain ⟨hb2,k,x,hk,rfl,rfl,hx⟩:=hrel;rcases hx with ⟨hx0,hx⟩|⟨rfl,he0,hall⟩
    · have hx':(fun _:Unit=>x)=fun _=>nR N l:=by rw [hx]
      clear hx;by_cases hkl:(k:Int)<l.length
      · go_wp2;go_ret;exact ⟨by rw [←ybu hx' ()];rfl,hb2⟩
      · go_wp2;go_ret;exact ⟨by rw [←ybu hx' ()];rfl,hb2⟩
    · by_cases hkl:k<l.length
      · have hkl':(k:Int)<l.length:=by omega
        rcases hr with hr|⟨R,o,rfl,EX,hr⟩
        · subst hr;simp at hkl
        obtain ⟨d0,d1⟩:=Wm l k hkl;have e0:=hr _ _ d0;have e1:=hr _ _ d1;have hx1:=hok l[k] (yaS hkl);have hRl:R<w.heap.size:=World.block_lt_of_cell? w _ e0;have f0:=(hb2.cell (p:=⟨R,o+k*3,none⟩) hRl).trans e0;have f1:wr.cell? ⟨R,o+k*3+1,none⟩=some (.int .u32 l[k].len):=(hb2.cell (p:=⟨R,o+(k*3+1),none⟩) hRl).trans e1;have sS:R<wr.heap.size:=World.block_lt_of_cell? wr _ f0;have hlc:(l.length:Int)≤l.length:=ybW _;obtain ⟨q1,q2,q3,q4⟩:=hx1;have wl:IntKind.wrap .u64 l[k].len=l[k].len:=cZ q3 (by omega);have st2:=st.below hb2;have hhas:=fun w4 (h4:bP w4 P L Bs B N g)=>zne P L Bs B N l[k].aP l[k].len g w4 h4 hN q1 q2 q3 (by omega);generalize hat:l[k].aP=a1 at*;generalize hln:l[k].len=n1 at*;by_cases hin:1≤n1∧a1+n1≤N
        · rw [yaG hin] at hhas;go_wp2_with fail;go_region_held3 (fun w'=>w'.cell? ⟨R,o+k*3,none⟩=some (.int .u64 a1)∧w'.cell? ⟨R,o+k*3+1,none⟩=some (.int .u32 n1)) (go_keep)
            ((first|(go_at_call 175;refine (hhas wr.drew (st2.kept (w':=wr.drew) (fun _ _ _=>rfl) (yab _))).mono ?_;rintro en w3 ⟨rfl,hb3⟩;have f2:=(hb3.cell (p:=⟨R,o+k*3,none⟩) sS).trans f0;have f3:=(hb3.cell (p:=⟨R,o+k*3+1,none⟩) sS).trans f1)))
          all_goals go_wp2_with fail
          all_goals
            refine ⟨⟨hb2.drew.trans (hb3.mono hb2.size),k+1,by omega,by push_cast;rfl,fun j hj hlt=> ?_⟩,by simp only [RowKit.intOf];omega⟩;by_cases hjk:j=k
            · subst hjk;rw [hat,hln];exact hin
            · exact hall j hj (by omega)
        · rw [yar hin] at hhas;go_wp2_with fail;go_region_held3 (fun w'=>w'.cell? ⟨R,o+k*3,none⟩=some (.int .u64 a1)∧w'.cell? ⟨R,o+k*3+1,none⟩=some (.int .u32 n1)) (go_keep)
            ((first|(go_at_call 175;refine (hhas wr.drew (st2.kept (w':=wr.drew) (fun _ _ _=>rfl) (yab _))).mono ?_;rintro en w3 ⟨rfl,hb3⟩;have f2:=(hb3.cell (p:=⟨R,o+k*3,none⟩) sS).trans f0;have f3:=(hb3.cell (p:=⟨R,o+k*3+1,none⟩) sS).trans f1)))
          all_goals go_wp2_with fail
          all_goals
            refine ⟨⟨hb2.drew.trans (hb3.mono hb2.size),k+1,by omega,by push_cast;rfl,?_⟩,by simp only [RowKit.intOf];omega⟩;unfold nR;rw [yaj he0,yai fun h=>hin ?_];have:=Df.1 h l[k] (yaS hkl)
            rwa [hat,hln] at this
      · have hkl': ¬(k:Int)<l.length:=by omega
        go_wp2;go_ret;refine ⟨?_,hb2⟩;have hz:nR N l=0:=by
          unfold nR;rw [yaj he0,yaj (Df.2 fun x hx=>by
            obtain ⟨j,hj,rfl⟩:=List.getElem_of_mem hx;exact hall j hj (by omega))]
        rw [hz];rfl
set_option maxRecDepth 100000 in
theorem Tryz.ztZ {A:Nat→Prop} {w:World} {v:Value} {l:List Sg} (h:aX A w v l) (hl:l.length≤1000000):
    Calls prog 78 #[v] w fun e w'=>e= .returned (.tuple #[.int .u64 (iO l).1,.int .u64 (iO l).2])∧Below w.heap.size w w':=by
  have hck:=fun w' (hb:Below w.heap.size w w')=>H9 (aX.below h hb);obtain ⟨sa,c,rfl,hok,hr⟩:=h;unfold iO;by_cases he:gH l=0
  · rw [yaj he];rw [he] at hck;have hS1:(fun _:Unit=>dU false l)=fun _=>dU false (l.take l.length):=by rw [yb2]
    have hS2:(fun _:Unit=>dU true l)=fun _=>dU true (l.take l.length):=by rw [yb2]
    go_enter func78,ntmps78;go_wp2_with fail;go_loopw [4,5,6] (fun x y i wr=>Below w.heap.size w wr∧ ∃k:Nat,k≤l.length∧i= .int .i64 k∧x= .int .u64 (dU false (l.take k))∧y= .int .u64 (dU true (l.take k))) (fun _ _ i _=>l.length-(RowKit.intOf i).toNat)
    case atStart=>exact ⟨yah _ w,0,yaE _,rfl,rfl,rfl⟩
    case round=>
      obtain ⟨hb2,k,hk,rfl,rfl,rfl⟩:=hrel;by_cases hkl:k<l.length
      · have hkl':(k:Int)<l.length:=by omega
        rcases hr with hr|⟨R,o,rfl,EX,hr⟩
        · subst hr;simp at hkl
        obtain ⟨d0,d1,d2⟩:=CX l k hkl;have e1:=hr _ _ d1;have e2:=hr _ _ d2;have hRl:R<w.heap.size:=World.block_lt_of_cell? w _ e1;obtain ⟨q1,q2,q3,q4⟩:=hok l[k] (yaS hkl);have hs1:=Gj false l k hkl;have hs2:=Gj true l k hkl;have b1:=xY false (l.take (k+1)) (fun y hy=>hok y (ybL hy));have b2:=xY true (l.take (k+1)) (fun y hy=>hok y (ybL hy));have hlt:(l.take (k+1)).length≤1000000:=by simp;omega
        have E8:=hck _ hb2;have g1:wr.cell? ⟨R,o+k*3+1,none⟩=some (.int .u32 l[k].len):=by
          rw [show o+k*3+1=o+(3*k+1) by omega];exact (hb2.cell (p:=⟨R,o+(3*k+1),none⟩) hRl).trans e1
        have g2:wr.cell? ⟨R,o+k*3+2,none⟩=some (.bool l[k].wr):=by
          rw [show o+k*3+2=o+(3*k+2) by omega];exact (hb2.cell (p:=⟨R,o+(3*k+2),none⟩) hRl).trans e2
        have sS:R<wr.heap.size:=World.block_lt_of_cell? wr _ g1;have u0:IntKind.wrap .u64 l[k].len=l[k].len:=cZ q3 (by omega);clear hr e1 e2 d0 d1 d2 hS1 hS2;cases hw:l[k].wr with
        | false=>
          rw [hw] at g2;rw [yaj hw] at hs1;rw [yai (by rw [hw];decide),yds] at hs2;have u1:IntKind.wrap .u64 (dU false (l.take k)+l[k].len)=dU false (l.take k)+l[k].len:=cZ (by omega) (by omega);generalize l[k].len=n1 at*;generalize hA1:dU false (l.take k)=S1 at*;generalize hA2:dU true (l.take k)=S2 at*;clear hA1 hA2;have o9:(fun _:Unit=>dU false (l.take (k+1)))=fun _=>S1+n1:=by rw [hs1]
          have ve:(fun _:Unit=>dU true (l.take (k+1)))=fun _=>S2:=by rw [hs2]
          clear hs1 hs2;go_wp2_with (first
            | (go_at_call 83;refine E8.mono ?_;rintro en w3 ⟨rfl,hb3⟩;have f1:=(hb3.cell (p:=⟨R,o+k*3+1,none⟩) sS).trans g1;have f2:=(hb3.cell (p:=⟨R,o+k*3+2,none⟩) sS).trans g2)
            | go_in)
          exact ⟨⟨hb2.trans (hb3.mono hb2.size),k+1,by omega,by push_cast;rfl,by rw [ybu o9 ()],by rw [ybu ve ()]⟩,by simp only [RowKit.intOf];omega⟩
        | true=>
          rw [hw] at g2;rw [yaj hw] at hs2;rw [yai (by rw [hw];decide),yds] at hs1;have u1:IntKind.wrap .u64 (dU true (l.take k)+l[k].len)=dU true (l.take k)+l[k].len:=cZ (by omega) (by omega);generalize l[k].len=n1 at*;generalize hA1:dU false (l.take k)=S1 at*;generalize hA2:dU true (l.take k)=S2 at*;clear hA1 hA2;have o9:(fun _:Unit=>dU false (l.take (k+1)))=fun _=>S1:=by rw [hs1]
          have ve:(fun _:Unit=>dU true (l.take (k+1)))=fun _=>S2+n1:=by rw [hs2]
          clear hs1 hs2;go_wp2_with (first
            | (go_at_call 83;refine E8.mono ?_;rintro en w3 ⟨rfl,hb3⟩;have f1:=(hb3.cell (p:=⟨R,o+k*3+1,none⟩) sS).trans g1;have f2:=(hb3.cell (p:=⟨R,o+k*3+2,none⟩) sS).trans g2)
            | go_in)
          exact ⟨⟨hb2.trans (hb3.mono hb2.size),k+1,by omega,by push_cast;rfl,by rw [ybu o9 ()],by rw [ybu ve ()]⟩,by simp only [RowKit.intOf];omega⟩
      · have hkl': ¬(k:Int)<l.length:=by omega
        go_wp2;go_ret2;have:k=l.length:=by omega
        subst this;exact ⟨by rw [ybu hS1 (),ybu hS2 ()];rfl,hb2⟩
  · rw [yai he];go_enter func78,ntmps78;go_wp2_with fail;go_loopw [4,5,6] (fun x y i wr=>wr=w∧i= .int .i64 0∧x= .int .u64 0∧y= .int .u64 0) (fun _ _ i _=>0)
    case atStart=>exact ⟨rfl,rfl,rfl,rfl⟩
    case round=>
      obtain ⟨rfl,rfl,rfl,rfl⟩:=hrel;have E8:=hck _ (yah _ _);have he2:(gH l==0)=false:=by simpa using he
      by_cases hkl:(0:Int)<l.length
      · go_wp2_with (first
          | (go_at_call 83;refine E8.mono ?_;rintro en w1 ⟨rfl,hb1⟩)
          | go_in)
        go_ret2;exact ⟨rfl,hb1⟩
      · go_wp2_with fail;go_ret2;exact ⟨rfl,yah _ _⟩
end Go.Proofs
namespace Go.Proofs
open Go.Dw Go.RowKit
structure Tryz.jG (r:Rg):Prop where
 bnd:1≤r.n∧r.n≤16
 d:r.d=4096
 v:r.v=4096+16*r.n
 c:r.c=4100+16*r.n
def Tryz.Rg.gJ (r:Rg):Value:= .agg #[.bool true,.int .i64 r.n,.int .u64 r.d,.int .u64 r.v,.int .u64 r.c]
structure Tryz.bN where
 ct:Int
 sg:List Sg
def Tryz.bY (k:Int):List (Int×bN)→Option bN
 | [] => none
 | e::r=>if k=e.1 then some e.2 else bY k r
def Tryz.iB (k:Int):List (Int×bN)→List (Int×bN)
 | [] => []
 | e::r=>if k=e.1 then r else e::iB k r
def Tryz.gX:List (Int×bN)→Int
 | [] => 0
 | e::r=>e.2.ct+gX r
structure Tryz.PS where
 ev:Bool
 tb:Bool
 nx:Int
 nw:Bool
 us:Int
 uw:Bool
 tk:List (Int×bN)
 ou:Int
 ph:Nat
 op:Int
 nn:Bool
 hd:Int
 sg:List Sg
 wr:Int
 it:Bool
 dn:Bool
 br:Bool
def Tryz.PS.row (s:PS) (r:Rg) (P M:Nat) (sv:Value):List Value:=
 [.pointer (some ⟨P,0,.none⟩),.bool true,.int .i64 r.n,.int .u64 r.d,.int .u64 r.v,.int .u64 r.c,.bool s.ev,.bool s.tb,.bool true,.int .i64 s.nx,.bool s.nw,.int .i64 s.us,.bool s.uw,.map (some M),.int .i64 s.ou,.int .i64 s.ph,
  .int .i64 s.op,.bool s.nn,.int .i64 s.hd,sv,.int .u32 s.wr,.bool s.it,.bool s.dn,.bool s.br]
def Tryz.PS.goto (s:PS) (k:Nat):PS:= { s with ph:=k,dn:=false,br:=false }
def Tryz.PS.stop (s:PS):PS:= { s with ph:=0,dn:=true,br:=false }
def Tryz.PS.brk (s:PS):PS:= { s with br:=true,ph:=0,op:=0,nn:=false,hd:=0,sg:= [],wr:=0,it:=false }
def Tryz.aZ (n aD:Int) (wr:Bool) (Bg:Int):Int×Bool:=if aD+Bg<n then (aD+Bg,wr) else (aD+Bg-n,!wr)
def Tryz.kL (f:Int) (wr:Bool):Bool:=(decide (f/128%2=1)==wr)&&(decide (f/32768%2=1) !=wr)
structure Tryz.Bd where
 id:Int
 ct:Int
 sg:List Sg
 e:Int
def Tryz.jv (g:Nat→Int) (a:Nat):Sg:=⟨ax g a 8,ax g (a+8) 4,ax g (a+14) 2/2%2*2 !=0⟩
def Tryz.lW (g:Nat→Int) (a:Nat):Nat→List Sg→List Sg×Int
 | 0,l=>(l,0)
 | k+1,l=>if ax g (a+14) 2/4%2=1 then ([],4) else lW g (a+16) k (l++ [jv g a])
def Tryz.gT (N:Nat) (g:Nat→Int) (aP n:Int):List Sg×Int:=
 if (fq N aP n).2≠0 then ([],(fq N aP n).2) else lW g aP.toNat (fq N aP n).1.toNat []
def Tryz.fD (N:Nat) (g:Nat→Int) (n:Int) (tb:Bool):Nat→Int→Int→List Sg→Int→Bd
 | 0,_,ct,l,id=>⟨id,ct,l,4⟩
 | k+1,aD,ct,l,_=>
  let a:=(4096+16*aD).toNat
  let f:=ax g (a+14) 2
  let id:=ax g (a+12) 2
  if f/4%2=1 then
   if tb=false∨1<ct+1∨f%2=1 then ⟨id,ct+1,l,4⟩
   else ⟨id,ct+1,(gT N g (ax g a 8) (ax g (a+8) 4)).1,(gT N g (ax g a 8) (ax g (a+8) 4)).2⟩
  else if f%2=0 then ⟨id,ct+1,l++ [jv g a],0⟩
  else fD N g n tb k (aZ n aD true 1).1 (ct+1) (l++ [jv g a]) id
def Tryz.bZ (N:Nat) (g:Nat→Int) (n:Int) (aD:Int) (tb:Bool):Bd:=
 let t:=fD N g n tb n.toNat aD 0 [] 0
 if t.e≠0 then ⟨0,0,[],t.e⟩ else if n≤t.id then ⟨0,0,[],4⟩ else if iC N t.sg≠0 then ⟨0,0,[],iC N t.sg⟩ else t
def Tryz.mU (aD:Int) (wr:Bool):Int:=aD+if wr then 32768 else 0
def Tryz.oO (n ea:Int) (ew:Bool) (na:Int) (nw:Bool) (Bg:Int):Bool:=decide ((na-(if ew=nw then ea else ea-n)-1)%65536<Bg%65536)
def Tryz.lD (n us:Int) (uw:Bool) (ct w:Int) (it0:Bool):Bool:=
 if w/65536%4=0 then true
 else if w/65536%4=2 then
  (if w%32768<n then oO n (w%32768) (decide (w/32768%2=1)) us uw ct else true)
 else it0
def Tryz.mF (g:Nat→Int) (s:PS):Bool:=kL (ax g (4096+16*s.nx+14).toNat 2) s.nw
def Tryz.iA (N:Nat) (r:Rg) (s:PS) (g:Nat→Int) (ph:Nat):Value×Int×PS×(Nat→Int):=
 let acc:=fun (k what i:Int)=>Value.agg #[.int .i64 k,.int .i64 what,.int .i64 i]
 match ph with
 | 1=>(acc 2 1 s.nx,0,if mF g s then s.goto 5 else if s.ev then s.goto 2 else ({ s with nn:=true }:PS).stop,g)
 | 2=>(acc 3 11 0,0,s.goto 3,dS g r.c.toNat 4 (mU s.nx s.nw+131072))
 | 3=>(acc 4 0 0,0,s.goto 4,g)
 | 4=>(acc 2 1 s.nx,0,if mF g s then s.goto 5 else ({ s with nn:=true }:PS).stop,g)
 | 5=>(acc 4 0 0,0,s.goto 6,g)
 | 6=>
  let t:=bZ N g r.n s.nx s.tb
  if t.e≠0∨bY t.id s.tk≠none∨r.n<t.ct+s.ou then (acc 1 0 0,4,s.brk,g)
  else (acc 1 0 0,0,({ s with tk:=s.tk++ [(t.id,⟨t.ct,t.sg⟩)],ou:=s.ou+t.ct,nx:=(aZ r.n s.nx s.nw t.ct).1,nw:=(aZ r.n s.nx s.nw t.ct).2,hd:=t.id,sg:=t.sg }:PS).stop,g)
 | 7=>(acc 3 1 s.us,0,s.goto 8,dS (dS g (4096+16*s.us+8).toNat 4 s.wr) (4096+16*s.us+12).toNat 2 s.hd)
 | 8=>(acc 4 0 0,0,s.goto 9,g)
 | 9=>(acc 3 1 s.us,0,s.goto 10,dS g (4096+16*s.us+14).toNat 2 ((if 0<s.wr then 2 else 0)+if s.uw then 32896 else 0))
 | 10=>(acc 4 0 0,0,s.goto 11,g)
 | _=>
  let w:=ax g r.v.toNat 4
  let ct:=match bY s.hd s.tk with|some t=>t.ct|none=>0
  let u:=aZ r.n s.us s.uw ct
  (acc 2 10 0,0,({ s with us:=u.1,uw:=u.2,it:=lD r.n u.1 u.2 ct w s.it,tk:=iB s.hd s.tk,ou:=s.ou-ct }:PS).stop,g)
def Tryz.eO (N:Nat) (r:Rg) (s:PS) (g:Nat→Int):Value×Int×PS×(Nat→Int):=
 if s.br then (.agg #[.int .i64 0,.int .i64 0,.int .i64 0],4,s,g) else if s.ph=0 then (.agg #[.int .i64 0,.int .i64 0,.int .i64 0],8,s,g) else iA N r s g s.ph
def Tryz.qN (s:PS):Int×PS:=
 if s.br then (4,s) else if s.ph≠0 then (8,s) else (0,({ s with op:=3,nn:=false,hd:=0,sg:= [],wr:=0,it:=false }:PS).goto 1)
def Tryz.ni (s:PS) (h wr:Int):Int×PS:=
 if s.br then (4,s) else if s.ph≠0 then (8,s) else
  match bY h s.tk with
  | none=>(6,s)
  | some t=>if (iO t.sg).2<wr then (2,s) else (0,({ s with op:=4,nn:=false,hd:=h,sg:= [],wr:=wr,it:=false }:PS).goto 7)
def Tryz.vM (i b:Nat):AV:= .agg [.int .i64 (ah i),.bool (.var b)]
end Go.Proofs
namespace Go.Proofs
open Go.Dw
def Tryz.zrX:List aG:= []
def Tryz.zwn:List Sh:= []
def Tryz.zrY:List AV:= [.int .u16 (aK 11),.bool (.var 0)]
def Tryz.zCS:List (SB×Bool):= []
def Tryz.U5:List Leaf:= [
 ⟨.bool (.not (.beq (.cmp .neq (.aQ [⟨11,0,65535,15,1,15⟩] 0) (.lit 0)) (.var 0))),[],[],0,[]⟩,
 ⟨.bool (.lit false),[],[],0,[]⟩]
def Tryz.U4:List (List (SB×Bool)×Nat):= [
 ([((.beq (.cmp .neq (.aQ [⟨11,0,65535,7,1,7⟩] 0) (.lit 0)) (.var 0)),true)],0),
 ([((.beq (.cmp .neq (.aQ [⟨11,0,65535,7,1,7⟩] 0) (.lit 0)) (.var 0)),false)],1)]
theorem Tryz.zCR:(ev prog (bB zrX) 100000 (.call 111 zrY (bn 0 zwn) (cK U5 0))).ways zCS=some U4:=by kernel_rfl
theorem Tryz.zER:(bD zwn&&zag zrX&&AV.bK zrY&&dh U5)=true:=by kernel_rfl
def Tryz.zna:List aG:= []
def Tryz.zrI:List Sh:= []
def Tryz.znb:List AV:= [.int .u16 (.lit 0),.bool (.var 0),.bool (.lit true)]
def Tryz.zzr:List (SB×Bool):= []
def Tryz.zv6:List Leaf:= [
 ⟨.int .u16 (.lit 32896),[],[],0,[]⟩,
 ⟨.int .u16 (.lit 0),[],[],0,[]⟩]
def Tryz.zv5:List (List (SB×Bool)×Nat):= [
 ([(.var 0,true)],0),
 ([(.var 0,false)],1)]
theorem Tryz.zzq:(ev prog (bB zna) 100000 (.call 37 znb (bn 0 zrI) (cK zv6 0))).ways zzr=some zv5:=by kernel_rfl
theorem Tryz.zCD:(bD zrI&&zag zna&&AV.bK znb&&dh zv6)=true:=by kernel_rfl
def Tryz.ZN:List aG:= []
def Tryz.zrH:List Sh:= []
def Tryz.ZO:List AV:= [.int .u16 (.lit 2),.bool (.var 0),.bool (.lit true)]
def Tryz.zzp:List (SB×Bool):= []
def Tryz.zv4:List Leaf:= [
 ⟨.int .u16 (.lit 32898),[],[],0,[]⟩,
 ⟨.int .u16 (.lit 2),[],[],0,[]⟩]
def Tryz.zv3:List (List (SB×Bool)×Nat):= [
 ([(.var 0,true)],0),
 ([(.var 0,false)],1)]
theorem Tryz.zzo:(ev prog (bB ZN) 100000 (.call 37 ZO (bn 0 zrH) (cK zv4 0))).ways zzp=some zv3:=by kernel_rfl
theorem Tryz.zCC:(bD zrH&&zag ZN&&AV.bK ZO&&dh zv4)=true:=by kernel_rfl
def Tryz.zrz:List aG:= []
def Tryz.zvQ:List Sh:= []
def Tryz.zrA:List AV:= [vM 4 0]
def Tryz.zCu:List (SB×Bool):= []
def Tryz.UX:List Leaf:= [
 ⟨.int .u16 (.aQ [⟨4,0,4611686018427387903,0,15,0⟩] 32768),[],[],0,[]⟩,
 ⟨.int .u16 (.aQ [⟨4,0,4611686018427387903,0,15,0⟩] 0),[],[],0,[]⟩]
def Tryz.UW:List (List (SB×Bool)×Nat):= [
 ([(.var 0,true)],0),
 ([(.var 0,false)],1)]
theorem Tryz.zCt:(ev prog (bB zrz) 100000 (.call 113 zrA (bn 0 zvQ) (cK UX 0))).ways zCu=some UW:=by kernel_rfl
theorem Tryz.zEJ:(bD zvQ&&zag zrz&&AV.bK zrA&&dh UX)=true:=by kernel_rfl
def Tryz.zng:List aG:= []
def Tryz.zrL:List Sh:= []
def Tryz.znh:List AV:= [.agg [.int .u16 (aK 11),.int .u16 (.lit 2)]]
def Tryz.zzu:List (SB×Bool):= []
def Tryz.zv9:List Leaf:= [
 ⟨.int .u64 (.aQ [⟨11,0,65535,0,16,0⟩] 131072),[],[],0,[]⟩]
def Tryz.zCH:List (List (SB×Bool)×Nat):= [
 ([], 0)]
theorem Tryz.zzt:(ev prog (bB zng) 100000 (.call 112 znh (bn 0 zrL) (cK zv9 0))).ways zzu=some zCH:=by kernel_rfl
theorem Tryz.zCI:(bD zrL&&zag zng&&AV.bK znh&&dh zv9)=true:=by kernel_rfl
def Tryz.Z9:List aG:= []
def Tryz.zrB:List Sh:= []
def Tryz.ZH:List AV:= [.int .u64 (aW 12)]
def Tryz.zzf:List (SB×Bool):= []
def Tryz.zvT:List Leaf:= [
 ⟨.agg [.int .u16 (.aQ [⟨12,0,4294967295,0,16,0⟩] 0),.int .u16 (.aQ [⟨12,0,4294967295,16,16,0⟩] 0)],[],[],0,[]⟩]
def Tryz.zCv:List (List (SB×Bool)×Nat):= [
 ([], 0)]
theorem Tryz.zze:(ev prog (bB Z9) 100000 (.call 132 ZH (bn 0 zrB) (cK zvT 0))).ways zzf=some zCv:=by kernel_rfl
theorem Tryz.zCw:(bD zrB&&zag Z9&&AV.bK ZH&&dh zvT)=true:=by kernel_rfl
def Tryz.ZI:List aG:= []
def Tryz.zrD:List Sh:= []
def Tryz.ZJ:List AV:= [.int .u16 (aK 11),.int .i64 (aF 0)]
def Tryz.zzi:List (SB×Bool):= []
def Tryz.zvV:List Leaf:= [
 ⟨.ay [.agg [.int .i64 (.lit 0),.bool (.lit false)],.int .i64 (.lit 4)],[],[],0,[]⟩,
 ⟨.ay [.agg [.int .i64 (.aQ [⟨11,0,65535,0,15,0⟩] 0),.bool (.cmp .geq (aK 11) (.lit 32768))],.int .i64 (.lit 0)],[],[],0,[]⟩]
def Tryz.zvU:List (List (SB×Bool)×Nat):= [
 ([((.cmp .geq (.aQ [⟨11,0,65535,0,15,0⟩] 0) (aF 0)),true)],0),
 ([((.cmp .geq (.aQ [⟨11,0,65535,0,15,0⟩] 0) (aF 0)),false)],1)]
theorem Tryz.zzh:(ev prog (bB ZI) 100000 (.call 133 ZJ (bn 0 zrD) (cK zvV 0))).ways zzi=some zvU:=by kernel_rfl
theorem Tryz.zCx:(bD zrD&&zag ZI&&AV.bK ZJ&&dh zvV)=true:=by kernel_rfl
def Tryz.zrF:List aG:= []
def Tryz.zv2:List Sh:= []
def Tryz.zrG:List AV:= [vM 4 0,vM 6 1,.int .i64 (ah 5),.int .i64 (aF 0)]
def Tryz.zCB:List (SB×Bool):= []
def Tryz.UZ:List Leaf:= [
 ⟨.ay [.bool (.lit false),.int .i64 (.lit 2)],[],[],0,[]⟩,
 ⟨.ay [.bool (.cmp .lss (.bin .sub .u16 (.bin .sub .u16 (.aQ [⟨6,0,4611686018427387903,0,16,0⟩] 0) (.wrap .u16 (.bin .and .i64 (.bin .sub .i64 (ah 4) (aF 0)) (.lit 65535)))) (.lit 1)) (.bin .sub .u16 (.aQ [⟨6,0,4611686018427387903,0,16,0⟩] 0) (.wrap .u16 (.bin .and .i64 (.bin .sub .i64 (ah 6) (ah 5)) (.lit 65535))))),.int .i64 (.lit 0)],[],[],0,[]⟩,
 ⟨.ay [.bool (.cmp .lss (.bin .sub .u16 (.bin .sub .u16 (.aQ [⟨6,0,4611686018427387903,0,16,0⟩] 0) (.aQ [⟨4,0,4611686018427387903,0,16,0⟩] 0)) (.lit 1)) (.bin .sub .u16 (.aQ [⟨6,0,4611686018427387903,0,16,0⟩] 0) (.wrap .u16 (.bin .and .i64 (.bin .sub .i64 (ah 6) (ah 5)) (.lit 65535))))),.int .i64 (.lit 0)],[],[],0,[]⟩]
def Tryz.UY:List (List (SB×Bool)×Nat):= [
 ([((.cmp .geq (ah 4) (aF 0)),true)],0),
 ([((.cmp .geq (ah 4) (aF 0)),false),((.cmp .geq (ah 6) (aF 0)),true)],0),
 ([((.cmp .geq (ah 4) (aF 0)),false),((.cmp .geq (ah 6) (aF 0)),false),((.cmp .gtr (ah 5) (aF 0)),true)],0),
 ([((.cmp .geq (ah 4) (aF 0)),false),((.cmp .geq (ah 6) (aF 0)),false),((.cmp .gtr (ah 5) (aF 0)),false),((.beq (.var 0) (.var 1)),false)],1),
 ([((.cmp .geq (ah 4) (aF 0)),false),((.cmp .geq (ah 6) (aF 0)),false),((.cmp .gtr (ah 5) (aF 0)),false),((.beq (.var 0) (.var 1)),true)],2)]
theorem Tryz.zCA:(ev prog (bB zrF) 100000 (.call 134 zrG (bn 0 zv2) (cK UZ 0))).ways zCB=some UY:=by kernel_rfl
theorem Tryz.zEL:(bD zv2&&zag zrF&&AV.bK zrG&&dh UZ)=true:=by kernel_rfl
def Tryz.zrw:List aG:= []
def Tryz.zvI:List Sh:= []
def Tryz.zrx:List AV:= [vM 4 0,.int .i64 (ah 5),.int .i64 (aF 0)]
def Tryz.zCn:List (SB×Bool):= []
def Tryz.UR:List Leaf:= [
 ⟨.ay [.agg [.int .i64 (.lit 0),.bool (.lit false)],.int .i64 (.lit 2)],[],[],0,[]⟩,
 ⟨.ay [.agg [.int .i64 (.bin .sub .i64 (.bin .add .i64 (ah 4) (ah 5)) (aF 0)),.bool (.not (.var 0))],.int .i64 (.lit 0)],[],[],0,[]⟩,
 ⟨.ay [.agg [.int .i64 (.bin .add .i64 (ah 4) (ah 5)),.bool (.var 0)],.int .i64 (.lit 0)],[],[],0,[]⟩]
def Tryz.UQ:List (List (SB×Bool)×Nat):= [
 ([((.cmp .geq (ah 4) (aF 0)),true)],0),
 ([((.cmp .geq (ah 4) (aF 0)),false),((.cmp .gtr (ah 5) (aF 0)),true)],0),
 ([((.cmp .geq (ah 4) (aF 0)),false),((.cmp .gtr (ah 5) (aF 0)),false),((.cmp .geq (.bin .add .i64 (ah 4) (ah 5)) (aF 0)),true)],1),
 ([((.cmp .geq (ah 4) (aF 0)),false),((.cmp .gtr (ah 5) (aF 0)),false),((.cmp .geq (.bin .add .i64 (ah 4) (ah 5)) (aF 0)),false)],2)]
theorem Tryz.zCm:(ev prog (bB zrw) 100000 (.call 123 zrx (bn 0 zvI) (cK UR 0))).ways zCn=some UQ:=by kernel_rfl
theorem Tryz.zEC:(bD zvI&&zag zrw&&AV.bK zrx&&dh UR)=true:=by kernel_rfl
def Tryz.zru:List aG:= []
def Tryz.zvG:List Sh:= []
def Tryz.zrv:List AV:= [vM 4 0,vM 6 1,.int .i64 (ah 5),.int .i64 (aF 0)]
def Tryz.zCj:List (SB×Bool):= []
def Tryz.UO:List Leaf:= [
 ⟨.ay [.bool (.lit false),.int .i64 (.lit 2)],[],[],0,[]⟩,
 ⟨.ay [.bool (.cmp .lss (.bin .sub .u16 (.bin .sub .u16 (.aQ [⟨6,0,4611686018427387903,0,16,0⟩] 0) (.wrap .u16 (.bin .sub .i64 (ah 4) (aF 0)))) (.lit 1)) (.bin .sub .u16 (.aQ [⟨6,0,4611686018427387903,0,16,0⟩] 0) (.wrap .u16 (.bin .sub .i64 (ah 6) (ah 5))))),.int .i64 (.lit 0)],[],[],0,[]⟩,
 ⟨.ay [.bool (.cmp .lss (.bin .sub .u16 (.bin .sub .u16 (.aQ [⟨6,0,4611686018427387903,0,16,0⟩] 0) (.aQ [⟨4,0,4611686018427387903,0,16,0⟩] 0)) (.lit 1)) (.bin .sub .u16 (.aQ [⟨6,0,4611686018427387903,0,16,0⟩] 0) (.wrap .u16 (.bin .sub .i64 (ah 6) (ah 5))))),.int .i64 (.lit 0)],[],[],0,[]⟩]
def Tryz.UN:List (List (SB×Bool)×Nat):= [
 ([((.cmp .geq (ah 4) (aF 0)),true)],0),
 ([((.cmp .geq (ah 4) (aF 0)),false),((.cmp .geq (ah 6) (aF 0)),true)],0),
 ([((.cmp .geq (ah 4) (aF 0)),false),((.cmp .geq (ah 6) (aF 0)),false),((.cmp .gtr (ah 5) (aF 0)),true)],0),
 ([((.cmp .geq (ah 4) (aF 0)),false),((.cmp .geq (ah 6) (aF 0)),false),((.cmp .gtr (ah 5) (aF 0)),false),((.beq (.var 0) (.var 1)),false)],1),
 ([((.cmp .geq (ah 4) (aF 0)),false),((.cmp .geq (ah 6) (aF 0)),false),((.cmp .gtr (ah 5) (aF 0)),false),((.beq (.var 0) (.var 1)),true)],2)]
theorem Tryz.zCi:(ev prog (bB zru) 100000 (.call 129 zrv (bn 0 zvG) (cK UO 0))).ways zCj=some UN:=by kernel_rfl
theorem Tryz.zEz:(bD zvG&&zag zru&&AV.bK zrv&&dh UO)=true:=by kernel_rfl
def Tryz.zrr:List aG:= []
def Tryz.zvB:List Sh:= []
def Tryz.zrs:List AV:= [vM 4 0]
def Tryz.zCf:List (SB×Bool):= []
def Tryz.UJ:List Leaf:= [
 ⟨.int .u16 (.aQ [⟨4,0,4611686018427387903,0,15,0⟩] 32768),[],[],0,[]⟩,
 ⟨.int .u16 (.aQ [⟨4,0,4611686018427387903,0,15,0⟩] 0),[],[],0,[]⟩]
def Tryz.UI:List (List (SB×Bool)×Nat):= [
 ([(.var 0,true)],0),
 ([(.var 0,false)],1)]
theorem Tryz.zCe:(ev prog (bB zrr) 100000 (.call 121 zrs (bn 0 zvB) (cK UJ 0))).ways zCf=some UI:=by kernel_rfl
theorem Tryz.zEw:(bD zvB&&zag zrr&&AV.bK zrs&&dh UJ)=true:=by kernel_rfl
def Tryz.ztl:List aG:= []
def Tryz.zyp:List Sh:= []
def Tryz.ztm:List AV:= [.int .u16 (aK 11),.bool (.var 0)]
def Tryz.zD5:List (SB×Bool):= []
def Tryz.UB:List Leaf:= [
 ⟨.bool (.not (.beq (.cmp .neq (.aQ [⟨11,0,65535,15,1,15⟩] 0) (.lit 0)) (.var 0))),[],[],0,[]⟩,
 ⟨.bool (.lit false),[],[],0,[]⟩]
def Tryz.UA:List (List (SB×Bool)×Nat):= [
 ([((.beq (.cmp .neq (.aQ [⟨11,0,65535,7,1,7⟩] 0) (.lit 0)) (.var 0)),true)],0),
 ([((.beq (.cmp .neq (.aQ [⟨11,0,65535,7,1,7⟩] 0) (.lit 0)) (.var 0)),false)],1)]
theorem Tryz.zD4:(ev prog (bB ztl) 100000 (.call 152 ztm (bn 0 zyp) (cK UB 0))).ways zD5=some UA:=by kernel_rfl
theorem Tryz.zFz:(bD zyp&&zag ztl&&AV.bK ztm&&dh UB)=true:=by kernel_rfl
def Tryz.zpc:List aG:= []
def Tryz.zti:List Sh:= []
def Tryz.zpd:List AV:= [.int .u16 (.lit 0),.bool (.var 0),.bool (.lit true)]
def Tryz.zAM:List (SB×Bool):= []
def Tryz.zym:List Leaf:= [
 ⟨.int .u16 (.lit 32896),[],[],0,[]⟩,
 ⟨.int .u16 (.lit 0),[],[],0,[]⟩]
def Tryz.zyl:List (List (SB×Bool)×Nat):= [
 ([(.var 0,true)],0),
 ([(.var 0,false)],1)]
theorem Tryz.zAL:(ev prog (bB zpc) 100000 (.call 126 zpd (bn 0 zti) (cK zym 0))).ways zAM=some zyl:=by kernel_rfl
theorem Tryz.zD2:(bD zti&&zag zpc&&AV.bK zpd&&dh zym)=true:=by kernel_rfl
def Tryz.zpa:List aG:= []
def Tryz.zth:List Sh:= []
def Tryz.zpb:List AV:= [.int .u16 (.lit 2),.bool (.var 0),.bool (.lit true)]
def Tryz.zAK:List (SB×Bool):= []
def Tryz.zyk:List Leaf:= [
 ⟨.int .u16 (.lit 32898),[],[],0,[]⟩,
 ⟨.int .u16 (.lit 2),[],[],0,[]⟩]
def Tryz.zyj:List (List (SB×Bool)×Nat):= [
 ([(.var 0,true)],0),
 ([(.var 0,false)],1)]
theorem Tryz.zAJ:(ev prog (bB zpa) 100000 (.call 126 zpb (bn 0 zth) (cK zyk 0))).ways zAK=some zyj:=by kernel_rfl
theorem Tryz.zD1:(bD zth&&zag zpa&&AV.bK zpb&&dh zyk)=true:=by kernel_rfl
def Tryz.zrJ:List aG:= []
def Tryz.zv8:List Sh:= []
def Tryz.zrK:List AV:= [vM 4 0,.int .i64 (ah 5),.int .i64 (aF 0)]
def Tryz.zCG:List (SB×Bool):= []
def Tryz.U1:List Leaf:= [
 ⟨.ay [.agg [.int .i64 (.lit 0),.bool (.lit false)],.int .i64 (.lit 2)],[],[],0,[]⟩,
 ⟨.ay [.agg [.int .i64 (.bin .sub .i64 (.bin .add .i64 (ah 4) (ah 5)) (aF 0)),.bool (.not (.var 0))],.int .i64 (.lit 0)],[],[],0,[]⟩,
 ⟨.ay [.agg [.int .i64 (.bin .add .i64 (ah 4) (ah 5)),.bool (.var 0)],.int .i64 (.lit 0)],[],[],0,[]⟩]
def Tryz.U0:List (List (SB×Bool)×Nat):= [
 ([((.cmp .geq (ah 4) (aF 0)),true)],0),
 ([((.cmp .geq (ah 4) (aF 0)),false),((.cmp .gtr (ah 5) (aF 0)),true)],0),
 ([((.cmp .geq (ah 4) (aF 0)),false),((.cmp .gtr (ah 5) (aF 0)),false),((.cmp .geq (.bin .add .i64 (ah 4) (ah 5)) (aF 0)),true)],1),
 ([((.cmp .geq (ah 4) (aF 0)),false),((.cmp .gtr (ah 5) (aF 0)),false),((.cmp .geq (.bin .add .i64 (ah 4) (ah 5)) (aF 0)),false)],2)]
theorem Tryz.zCF:(ev prog (bB zrJ) 100000 (.call 20 zrK (bn 0 zv8) (cK U1 0))).ways zCG=some U0:=by kernel_rfl
theorem Tryz.zEN:(bD zv8&&zag zrJ&&AV.bK zrK&&dh U1)=true:=by kernel_rfl
open Go.RowKit
theorem Tryz.AY {ρ:Val} {a b:SB}:SB.den ρ (.beq a b)=(a.den ρ==b.den ρ):=rfl
theorem Tryz.IX {ρ:Val} {i s:Nat} {f:Int} (e:ρ.i i=f) (h:0≤f∧f<65536):SE.den ρ (.aQ [⟨i,0,65535,s,1,s⟩] 0)=f/(2^s:Nat)%2*(2^s:Nat):=by
 have:=jB (ρ:=ρ) (i:=i) (lo:=0) (hi:=65535) (fr:=s) (n:=1) (sh:=s) (by rw [e];exact h.1) (by rw [e];show f≤65535;omega);rw [e] at this;exact this
theorem Tryz.Am {ρ:Val} {i hi n k:Nat} {f:Int} (e:ρ.i i=f) (h0:0≤f) (h1:f≤(hi:Int)) (h2:f<((2^n:Nat):Int)) {c:Nat} (hc:c=k<<<n):SE.den ρ (.aQ [⟨i,0,hi,0,n,0⟩] c)=f+((k*2^n:Nat):Int):=by
 subst hc;obtain ⟨x,hx⟩:=yaT h0;subst hx;simp only [SE.den,aN,aO.den,e,ya0];have e1:max 0 (min x hi)=x:=by omega
 have h2:x<2^n:=by omega
 rw [e1,ycr,ybd h2,ycS,ycI,←ycF h2,yb1];show ((k*2^n+x:Nat):Int)=x+((k*2^n:Nat):Int);omega
theorem Tryz.TY {f:Int} {b:Bool} (h:0≤f∧f<65536) (w:World):Calls prog 152 #[.int .u16 f,.bool b] w fun e w'=>e= .returned (.bool (kL f b))∧Below w.heap.size w w':=by
 have e11:(cB [0,0,0,0,0,0,0,0,0,0,0,f] [b] []).i 11=f:=rfl;have d11:(aK 11).den (cB [0,0,0,0,0,0,0,0,0,0,0,f] [b] [])=f:=jC h.1 h.2;have b0:(cB [0,0,0,0,0,0,0,0,0,0,0,f] [b] []).b 0=b:=rfl;generalize cB [0,0,0,0,0,0,0,0,0,0,0,f] [b] []=ρ at e11 d11 b0;have q7:=IX (s:=7) e11 h;have CF:=IX (s:=15) e11 h;refine yaq (zap (ρ:=ρ) (K:=fun _=>False) (g:=bg.none) (bl:= []) (vals:= [.int .u16 f,.bool b]) mixed zD4 zFz (fun b h=>h.elim) trivial trivial fo trivial (af (ai d11) (af (aU b0) RL.nil)) (aR.2 trivial)) fun e w' hh=> ?_;obtain ⟨p,hpm,hto,l,hl,j,he⟩:=hh;have hb:=gF he (fun _ h=>h);have e1:(f/((2^7:Nat):Int)%2*((2^7:Nat):Int) !=0)=decide (f/128%2=1):=by
  have:((2^7:Nat):Int)=128:=rfl;rw [this];by_cases hh:f/128%2=1
  ·rw [hh];rfl
  ·rw [show f/128%2=0 by omega];rfl
 have e2:(f/((2^15:Nat):Int)%2*((2^15:Nat):Int) !=0)=decide (f/32768%2=1):=by
  have:((2^15:Nat):Int)=32768:=rfl;rw [this];by_cases hh:f/32768%2=1
  ·rw [hh];rfl
  ·rw [show f/32768%2=0 by omega];rfl
 unfold UA at hpm;simp only [yad,yag,yaB] at hpm;unfold kL;rcases hpm with rfl|rfl
 all_goals
  simp only [aH,aR,AY,mY,bR,q7,b0,aC,e1,yaN] at hto;cases hl;refine ⟨he.ret.trans ?_,hb⟩;simp only [AV.val,Jq,AY,mY,bR,jd,CF,b0,aC,e2];rw [hto];simp [bne]
def Tryz.yL (n a c b:Int) (x y:Bool):Val:=cB [n,0,0,0,a,c,b] [x,y] []
structure Tryz.PcD (ρ:Val) (n a c b:Int) (x y:Bool):Prop where
 d0:(aF 0).den ρ=n
 d4:(ah 4).den ρ=a
 d5:(ah 5).den ρ=c
 d6:(ah 6).den ρ=b
 i4:ρ.i 4=a
 i6:ρ.i 6=b
 b0:ρ.b 0=x
 b1:ρ.b 1=y
theorem Tryz.zR {n a c b:Int} {x y:Bool} (hn:1≤n∧n≤32768) (ha:0≤a∧a<32768) (hc:0≤c∧c≤32768) (hb:0≤b∧b<32768):PcD (yL n a c b x y) n a c b x y:=
 ⟨uf hn.1 hn.2,dK ha.1 (by show a<_;omega),dK hc.1 (by show c<_;omega),dK hb.1 (by show b<_;omega),rfl,rfl,rfl,rfl⟩
def Tryz.bQ (a:Int) (x:Bool):Value:= .agg #[.int .i64 a,.bool x]
theorem Tryz.AU {n a c:Int} {x:Bool} (hn:1≤n∧n≤32768) (ha:0≤a∧a<n) (hc:0≤c∧c≤n) (w:World):
  Calls prog 123 #[bQ a x,.int .i64 c,.int .i64 n] w fun e w'=>e= .returned (.tuple #[bQ (aZ n a x c).1 (aZ n a x c).2,.int .i64 0])∧Below w.heap.size w w':=by
 have D:=zR (n:=n) (a:=a) (c:=c) (b:=0) (x:=x) (y:=false) hn ⟨ha.1,by omega⟩ ⟨hc.1,by omega⟩ ⟨by decide,by decide⟩;generalize yL n a c 0 x false=ρ at D;refine yaq (zap (ρ:=ρ) (K:=fun _=>False) (g:=bg.none) (bl:= []) (vals:= [bQ a x,.int .i64 c,.int .i64 n]) mixed zCm zEC (fun b h=>h.elim) trivial trivial fo trivial (af (dO (af (ai D.d4) (af (aU D.b0) RL.nil))) (af (ai D.d5) (af (ai D.d0) RL.nil))) (aR.2 trivial)) fun e w' hh=> ?_;obtain ⟨p,hpm,hto,l,hl,j,he⟩:=hh;have hb:=gF he (fun _ h=>h);have w1:IntKind.wrap .i64 (a+c)=a+c:=gy (by omega) (by omega);have w2:IntKind.wrap .i64 (a+c-n)=a+c-n:=gy (by omega) (by omega);unfold UQ at hpm;simp only [yad,yag,yaB] at hpm;rcases hpm with rfl|rfl|rfl|rfl
 all_goals
  simp only [aH,aR,je,gZ,den_add,D.d0,D.d4,D.d5,w1,yat,yas,yaN] at hto;cases hl;refine ⟨?_,hb⟩
 ·omega
 ·omega
 ·rw [he.ret];have e1:aZ n a x c=(a+c-n,!x):=by unfold aZ;rw [yai (by omega)]
  rw [e1];simp only [AV.val,AV.aI,den_add,iG,aC,Jq,bR,D.d0,D.d4,D.d5,D.b0,w1,w2];rfl
 ·rw [he.ret];have e1:aZ n a x c=(a+c,x):=by unfold aZ;rw [yaj (by omega)]
  rw [e1];simp only [AV.val,AV.aI,den_add,aC,bR,D.d4,D.d5,D.b0,w1];rfl
theorem Tryz.IE {n a c:Int} {x:Bool} (hn:1≤n∧n≤32768) (ha:0≤a∧a<n) (hc:0≤c∧c≤n) (w:World):
  Calls prog 20 #[bQ a x,.int .i64 c,.int .i64 n] w fun e w'=>e= .returned (.tuple #[bQ (aZ n a x c).1 (aZ n a x c).2,.int .i64 0])∧Below w.heap.size w w':=by
 have D:=zR (n:=n) (a:=a) (c:=c) (b:=0) (x:=x) (y:=false) hn ⟨ha.1,by omega⟩ ⟨hc.1,by omega⟩ ⟨by decide,by decide⟩;generalize yL n a c 0 x false=ρ at D;refine yaq (zap (ρ:=ρ) (K:=fun _=>False) (g:=bg.none) (bl:= []) (vals:= [bQ a x,.int .i64 c,.int .i64 n]) mixed zCF zEN (fun b h=>h.elim) trivial trivial fo trivial (af (dO (af (ai D.d4) (af (aU D.b0) RL.nil))) (af (ai D.d5) (af (ai D.d0) RL.nil))) (aR.2 trivial)) fun e w' hh=> ?_;obtain ⟨p,hpm,hto,l,hl,j,he⟩:=hh;have hb:=gF he (fun _ h=>h);have w1:IntKind.wrap .i64 (a+c)=a+c:=gy (by omega) (by omega);have w2:IntKind.wrap .i64 (a+c-n)=a+c-n:=gy (by omega) (by omega);unfold U0 at hpm;simp only [yad,yag,yaB] at hpm;rcases hpm with rfl|rfl|rfl|rfl
 all_goals
  simp only [aH,aR,je,gZ,den_add,D.d0,D.d4,D.d5,w1,yat,yas,yaN] at hto;cases hl;refine ⟨?_,hb⟩
 ·omega
 ·omega
 ·rw [he.ret];have e1:aZ n a x c=(a+c-n,!x):=by unfold aZ;rw [yai (by omega)]
  rw [e1];simp only [AV.val,AV.aI,den_add,iG,aC,Jq,bR,D.d0,D.d4,D.d5,D.b0,w1,w2];rfl
 ·rw [he.ret];have e1:aZ n a x c=(a+c,x):=by unfold aZ;rw [yaj (by omega)]
  rw [e1];simp only [AV.val,AV.aI,den_add,aC,bR,D.d4,D.d5,D.b0,w1];rfl
theorem Tryz.zAo {n a b c:Int} {x y:Bool} (hn:1≤n∧n≤32768) (ha:0≤a∧a<n) (hb:0≤b∧b<n) (hc:0≤c∧c≤n) (w:World):
  Calls prog 129 #[bQ a x,bQ b y,.int .i64 c,.int .i64 n] w fun e w'=>e= .returned (.tuple #[.bool (oO n a x b y c),.int .i64 0])∧Below w.heap.size w w':=by
 have D:=zR (n:=n) (a:=a) (c:=c) (b:=b) (x:=x) (y:=y) hn ⟨ha.1,by omega⟩ ⟨hc.1,by omega⟩ ⟨hb.1,by omega⟩;generalize yL n a c b x y=ρ at D;refine yaq (zap (ρ:=ρ) (K:=fun _=>False) (g:=bg.none) (bl:= []) (vals:= [bQ a x,bQ b y,.int .i64 c,.int .i64 n]) mixed zCi zEz (fun b h=>h.elim) trivial trivial fo trivial (af (dO (af (ai D.d4) (af (aU D.b0) RL.nil))) (af (dO (af (ai D.d6) (af (aU D.b1) RL.nil))) (af (ai D.d5) (af (ai D.d0) RL.nil)))) (aR.2 trivial)) fun e w' hh=> ?_;obtain ⟨p,hpm,hto,l,hl,j,he⟩:=hh;have hbl:=gF he (fun _ h=>h);have q4:SE.den ρ (.aQ [⟨4,0,4611686018427387903,0,16,0⟩] 0)=a:=(jB (by rw [D.i4];exact ha.1) (by rw [D.i4];show a≤4611686018427387903;omega)).trans (by rw [D.i4];show a/1%65536*1=a;omega);have q6:SE.den ρ (.aQ [⟨6,0,4611686018427387903,0,16,0⟩] 0)=b:=(jB (by rw [D.i6];exact hb.1) (by rw [D.i6];show b≤4611686018427387903;omega)).trans (by rw [D.i6];show b/1%65536*1=b;omega);have w1:IntKind.wrap .i64 (a-n)=a-n:=gy (by omega) (by omega);have w2:IntKind.wrap .i64 (b-c)=b-c:=gy (by omega) (by omega);unfold UN at hpm;simp only [yad,yag,yaB] at hpm;rcases hpm with rfl|rfl|rfl|rfl|rfl
 all_goals
  simp only [aH,aR,je,gZ,AY,bR,D.d0,D.d4,D.d5,D.d6,D.b0,D.b1,yat,yas,ya7,yaH,ycX,yaN] at hto;cases hl;refine ⟨?_,hbl⟩
 ·omega
 ·omega
 ·omega
 ·rw [he.ret];simp only [AV.val,AV.aI,fF,iG,Ip,aC,D.d0,D.d4,D.d5,D.d6,q4,q6,w1,w2,Hy];unfold oO;rw [yai hto.2.2.2];congr 5;exact ycn.2 (by omega)
 ·rw [he.ret];simp only [AV.val,AV.aI,fF,iG,Ip,aC,D.d0,D.d4,D.d5,D.d6,q4,q6,w1,w2,Hy];unfold oO;rw [yaj hto.2.2.2];congr 5;exact ycn.2 (by omega)
theorem Tryz.zz2 {a:Int} {x:Bool} (ha:0≤a∧a<32768) (w:World):
  Calls prog 121 #[bQ a x] w fun e w'=>e= .returned (.int .u16 (mU a x))∧Below w.heap.size w w':=by
 have D:=zR (n:=1) (a:=a) (c:=0) (b:=0) (x:=x) (y:=false) ⟨by decide,by decide⟩ ha ⟨by decide,by decide⟩ ⟨by decide,by decide⟩;generalize yL 1 a 0 0 x false=ρ at D;refine yaq (zap (ρ:=ρ) (K:=fun _=>False) (g:=bg.none) (bl:= []) (vals:= [bQ a x]) mixed zCe zEw (fun b h=>h.elim) trivial trivial fo trivial (af (dO (af (ai D.d4) (af (aU D.b0) RL.nil))) RL.nil) (aR.2 trivial)) fun e w' hh=> ?_;obtain ⟨p,hpm,hto,l,hl,j,he⟩:=hh;have hbl:=gF he (fun _ h=>h);unfold UI at hpm;simp only [yad,yag,yaB] at hpm;rcases hpm with rfl|rfl
 all_goals
  simp only [aH,aR,bR,D.b0,yaN] at hto;cases hl;refine ⟨?_,hbl⟩;rw [he.ret];simp only [AV.val]
 ·rw [Am (k:=1) (n:=15) (hi:=4611686018427387903) (c:=32768) D.i4 ha.1 (by show a≤4611686018427387903;omega) ha.2 rfl,hto];rfl
 ·rw [Am (k:=0) (n:=15) (hi:=4611686018427387903) (c:=0) D.i4 ha.1 (by show a≤4611686018427387903;omega) ha.2 rfl,hto];rfl
theorem Tryz.zsT {f:Int} {x:Bool} (hf:f=0∨f=2) (w:World):
  Calls prog 126 #[.int .u16 f,.bool x,.bool true] w fun e w'=>e= .returned (.int .u16 (f+if x then 32896 else 0))∧Below w.heap.size w w':=by
 have b0:(cB [] [x] []).b 0=x:=rfl;generalize cB [] [x] []=ρ at b0;rcases hf with rfl|rfl
 ·refine yaq (zap (ρ:=ρ) (K:=fun _=>False) (g:=bg.none) (bl:= []) (vals:= [.int .u16 0,.bool x,.bool true]) mixed zAL zD2 (fun b h=>h.elim) trivial trivial fo trivial (af (ai rfl) (af (aU b0) (af (aU rfl) RL.nil))) (aR.2 trivial)) fun e w' hh=> ?_;obtain ⟨p,hpm,hto,l,hl,j,he⟩:=hh;have hbl:=gF he (fun _ h=>h);unfold zyl at hpm;simp only [yad,yag,yaB] at hpm;rcases hpm with rfl|rfl
  all_goals
   simp only [aH,aR,bR,b0,yaN] at hto;cases hl;exact ⟨he.ret.trans (by rw [hto];rfl),hbl⟩
 ·refine yaq (zap (ρ:=ρ) (K:=fun _=>False) (g:=bg.none) (bl:= []) (vals:= [.int .u16 2,.bool x,.bool true]) mixed zAJ zD1 (fun b h=>h.elim) trivial trivial fo trivial (af (ai rfl) (af (aU b0) (af (aU rfl) RL.nil))) (aR.2 trivial)) fun e w' hh=> ?_;obtain ⟨p,hpm,hto,l,hl,j,he⟩:=hh;have hbl:=gF he (fun _ h=>h);unfold zyj at hpm;simp only [yad,yag,yaB] at hpm;rcases hpm with rfl|rfl
  all_goals
   simp only [aH,aR,bR,b0,yaN] at hto;cases hl;exact ⟨he.ret.trans (by rw [hto];rfl),hbl⟩
theorem Tryz.OP {f:Int} {b:Bool} (h:0≤f∧f<65536) (w:World):Calls prog 111 #[.int .u16 f,.bool b] w fun e w'=>e= .returned (.bool (kL f b))∧Below w.heap.size w w':=by
 have e11:(cB [0,0,0,0,0,0,0,0,0,0,0,f] [b] []).i 11=f:=rfl;have d11:(aK 11).den (cB [0,0,0,0,0,0,0,0,0,0,0,f] [b] [])=f:=jC h.1 h.2;have b0:(cB [0,0,0,0,0,0,0,0,0,0,0,f] [b] []).b 0=b:=rfl;generalize cB [0,0,0,0,0,0,0,0,0,0,0,f] [b] []=ρ at e11 d11 b0;have q7:=IX (s:=7) e11 h;have CF:=IX (s:=15) e11 h;refine yaq (zap (ρ:=ρ) (K:=fun _=>False) (g:=bg.none) (bl:= []) (vals:= [.int .u16 f,.bool b]) mixed zCR zER (fun b h=>h.elim) trivial trivial fo trivial (af (ai d11) (af (aU b0) RL.nil)) (aR.2 trivial)) fun e w' hh=> ?_;obtain ⟨p,hpm,hto,l,hl,j,he⟩:=hh;have hb:=gF he (fun _ h=>h);have e1:(f/((2^7:Nat):Int)%2*((2^7:Nat):Int) !=0)=decide (f/128%2=1):=by
  have:((2^7:Nat):Int)=128:=rfl;rw [this];by_cases hh:f/128%2=1
  ·rw [hh];rfl
  ·rw [show f/128%2=0 by omega];rfl
 have e2:(f/((2^15:Nat):Int)%2*((2^15:Nat):Int) !=0)=decide (f/32768%2=1):=by
  have:((2^15:Nat):Int)=32768:=rfl;rw [this];by_cases hh:f/32768%2=1
  ·rw [hh];rfl
  ·rw [show f/32768%2=0 by omega];rfl
 unfold U4 at hpm;simp only [yad,yag,yaB] at hpm;unfold kL;rcases hpm with rfl|rfl
 all_goals
  simp only [aH,aR,AY,mY,bR,q7,b0,aC,e1,yaN] at hto;cases hl;refine ⟨he.ret.trans ?_,hb⟩;simp only [AV.val,Jq,AY,mY,bR,jd,CF,b0,aC,e2];rw [hto];simp [bne]
theorem Tryz.zv7 {f:Int} {x:Bool} (hf:f=0∨f=2) (w:World):
  Calls prog 37 #[.int .u16 f,.bool x,.bool true] w fun e w'=>e= .returned (.int .u16 (f+if x then 32896 else 0))∧Below w.heap.size w w':=by
 have b0:(cB [] [x] []).b 0=x:=rfl;generalize cB [] [x] []=ρ at b0;rcases hf with rfl|rfl
 ·refine yaq (zap (ρ:=ρ) (K:=fun _=>False) (g:=bg.none) (bl:= []) (vals:= [.int .u16 0,.bool x,.bool true]) mixed zzq zCD (fun b h=>h.elim) trivial trivial fo trivial (af (ai rfl) (af (aU b0) (af (aU rfl) RL.nil))) (aR.2 trivial)) fun e w' hh=> ?_;obtain ⟨p,hpm,hto,l,hl,j,he⟩:=hh;have hbl:=gF he (fun _ h=>h);unfold zv5 at hpm;simp only [yad,yag,yaB] at hpm;rcases hpm with rfl|rfl
  all_goals
   simp only [aH,aR,bR,b0,yaN] at hto;cases hl;exact ⟨he.ret.trans (by rw [hto];rfl),hbl⟩
 ·refine yaq (zap (ρ:=ρ) (K:=fun _=>False) (g:=bg.none) (bl:= []) (vals:= [.int .u16 2,.bool x,.bool true]) mixed zzo zCC (fun b h=>h.elim) trivial trivial fo trivial (af (ai rfl) (af (aU b0) (af (aU rfl) RL.nil))) (aR.2 trivial)) fun e w' hh=> ?_;obtain ⟨p,hpm,hto,l,hl,j,he⟩:=hh;have hbl:=gF he (fun _ h=>h);unfold zv3 at hpm;simp only [yad,yag,yaB] at hpm;rcases hpm with rfl|rfl
  all_goals
   simp only [aH,aR,bR,b0,yaN] at hto;cases hl;exact ⟨he.ret.trans (by rw [hto];rfl),hbl⟩
theorem Tryz.zvW {a:Int} {x:Bool} (ha:0≤a∧a<32768) (w:World):
  Calls prog 113 #[bQ a x] w fun e w'=>e= .returned (.int .u16 (mU a x))∧Below w.heap.size w w':=by
 have D:=zR (n:=1) (a:=a) (c:=0) (b:=0) (x:=x) (y:=false) ⟨by decide,by decide⟩ ha ⟨by decide,by decide⟩ ⟨by decide,by decide⟩;generalize yL 1 a 0 0 x false=ρ at D;refine yaq (zap (ρ:=ρ) (K:=fun _=>False) (g:=bg.none) (bl:= []) (vals:= [bQ a x]) mixed zCt zEJ (fun b h=>h.elim) trivial trivial fo trivial (af (dO (af (ai D.d4) (af (aU D.b0) RL.nil))) RL.nil) (aR.2 trivial)) fun e w' hh=> ?_;obtain ⟨p,hpm,hto,l,hl,j,he⟩:=hh;have hbl:=gF he (fun _ h=>h);unfold UW at hpm;simp only [yad,yag,yaB] at hpm;rcases hpm with rfl|rfl
 all_goals
  simp only [aH,aR,bR,D.b0,yaN] at hto;cases hl;refine ⟨?_,hbl⟩;rw [he.ret];simp only [AV.val]
 ·rw [Am (k:=1) (n:=15) (hi:=4611686018427387903) (c:=32768) D.i4 ha.1 (by show a≤4611686018427387903;omega) ha.2 rfl,hto];rfl
 ·rw [Am (k:=0) (n:=15) (hi:=4611686018427387903) (c:=0) D.i4 ha.1 (by show a≤4611686018427387903;omega) ha.2 rfl,hto];rfl
theorem Tryz.zzv {f:Int} (h:0≤f∧f<65536) (w:World):Calls prog 112 #[.agg #[.int .u16 f,.int .u16 2]] w fun e w'=>e= .returned (.int .u64 (f+131072))∧Below w.heap.size w w':=by
 have e11:(cB [0,0,0,0,0,0,0,0,0,0,0,f] [] []).i 11=f:=rfl;have d11:(aK 11).den (cB [0,0,0,0,0,0,0,0,0,0,0,f] [] [])=f:=jC h.1 h.2;generalize cB [0,0,0,0,0,0,0,0,0,0,0,f] [] []=ρ at e11 d11;refine yaq (zap (ρ:=ρ) (K:=fun _=>False) (g:=bg.none) (bl:= []) (vals:= [.agg #[.int .u16 f,.int .u16 2]]) mixed zzt zCI (fun b h=>h.elim) trivial trivial fo trivial (af (dO (af (ai d11) (af (ai rfl) RL.nil))) RL.nil) (aR.2 trivial)) fun e w' hh=> ?_;obtain ⟨_,j,he⟩:=mE hh;refine ⟨he.ret.trans ?_,gF he (fun _ h=>h)⟩;simp only [AV.val];rw [Am (k:=2) (n:=16) (hi:=65535) (c:=131072) e11 h.1 (by show f≤65535;omega) h.2 rfl];rfl
theorem Tryz.zzg {f:Int} (h:0≤f∧f<4294967296) (w:World):Calls prog 132 #[.int .u64 f] w fun e w'=>e= .returned (.agg #[.int .u16 (f%65536),.int .u16 (f/65536)])∧Below w.heap.size w w':=by
 have e12:(cB [0,0,0,0,0,0,0,0,0,0,0,0,f] [] []).i 12=f:=rfl;have d12:(aW 12).den (cB [0,0,0,0,0,0,0,0,0,0,0,0,f] [] [])=f:=lU h.1 h.2;generalize cB [0,0,0,0,0,0,0,0,0,0,0,0,f] [] []=ρ at e12 d12;refine yaq (zap (ρ:=ρ) (K:=fun _=>False) (g:=bg.none) (bl:= []) (vals:= [.int .u64 f]) mixed zze zCw (fun b h=>h.elim) trivial trivial fo trivial (af (ai d12) RL.nil) (aR.2 trivial)) fun e w' hh=> ?_;obtain ⟨_,j,he⟩:=mE hh;have q1:SE.den ρ (.aQ [⟨12,0,4294967295,0,16,0⟩] 0)=f%65536:=(jB (by rw [e12];exact h.1) (by rw [e12];show f≤4294967295;omega)).trans (by rw [e12];show f/1%65536*1=_;omega);have q2:SE.den ρ (.aQ [⟨12,0,4294967295,16,16,0⟩] 0)=f/65536:=(jB (by rw [e12];exact h.1) (by rw [e12];show f≤4294967295;omega)).trans (by rw [e12];show f/65536%65536*1=_;omega);refine ⟨he.ret.trans ?_,gF he (fun _ h=>h)⟩;simp only [AV.val,AV.aI,q1,q2]
theorem Tryz.zzj {f n:Int} (h:0≤f∧f<65536) (hn:1≤n∧n≤32768) (w:World):Calls prog 133 #[.int .u16 f,.int .i64 n] w fun e w'=>e= .returned (.tuple #[if f%32768<n then bQ (f%32768) (decide (f/32768%2=1)) else bQ 0 false,.int .i64 (if f%32768<n then 0 else 4)])∧Below w.heap.size w w':=by
 have e11:(cB [n,0,0,0,0,0,0,0,0,0,0,f] [] []).i 11=f:=rfl;have d11:(aK 11).den (cB [n,0,0,0,0,0,0,0,0,0,0,f] [] [])=f:=jC h.1 h.2;have d0:(aF 0).den (cB [n,0,0,0,0,0,0,0,0,0,0,f] [] [])=n:=uf hn.1 hn.2;generalize cB [n,0,0,0,0,0,0,0,0,0,0,f] [] []=ρ at e11 d11 d0;have q1:SE.den ρ (.aQ [⟨11,0,65535,0,15,0⟩] 0)=f%32768:=(jB (by rw [e11];exact h.1) (by rw [e11];show f≤65535;omega)).trans (by rw [e11];show f/1%32768*1=_;omega);refine yaq (zap (ρ:=ρ) (K:=fun _=>False) (g:=bg.none) (bl:= []) (vals:= [.int .u16 f,.int .i64 n]) mixed zzh zCx (fun b h=>h.elim) trivial trivial fo trivial (af (ai d11) (af (ai d0) RL.nil)) (aR.2 trivial)) fun e w' hh=> ?_;obtain ⟨p,hpm,hto,l,hl,j,he⟩:=hh;have hbl:=gF he (fun _ h=>h);unfold zvU at hpm;simp only [yad,yag,yaB] at hpm;rcases hpm with rfl|rfl
 all_goals
  simp only [aH,aR,je,q1,d0,yat,yas,yaN] at hto;cases hl;refine ⟨he.ret.trans ?_,hbl⟩
 ·rw [yai (by omega),yai (by omega)];rfl
 ·rw [yaj (by omega),yaj (by omega)];simp only [AV.val,AV.aI,je,q1,d11,aC];unfold bQ;rw [show decide (f/32768%2=1)=decide (32768≤f) from ycn.2 (by omega)]
theorem Tryz.zyL (x:Int):mZ .and .i64 x 65535=x%65536:=by
 have hx:(BitVec.ofInt IntKind.i64.bits x&&&BitVec.ofInt IntKind.i64.bits 65535).toNat=(x%65536).toNat:=by
  rw [yc5];have e2:(BitVec.ofInt IntKind.i64.bits 65535).toNat=2^16-1:=by decide
  rw [e2,Nat.and_two_pow_sub_one_eq_mod];have e1:(BitVec.ofInt IntKind.i64.bits x).toNat=(x%18446744073709551616).toNat:=by
   rw [BitVec.toNat_ofInt];rfl
  rw [e1];omega
 show IntKind.wrap .i64 ((BitVec.ofInt IntKind.i64.bits x&&&BitVec.ofInt IntKind.i64.bits 65535).toNat:Int)=_;rw [hx];have:((x%65536).toNat:Int)=x%65536:=ybz (ybP _ (by decide));rw [this];exact gy (by omega) (by omega)
theorem Tryz.zyn {ρ:Val} {k:IntKind} {a b:SE}:SE.den ρ (.bin .and k a b)=mZ .and k (a.den ρ) (b.den ρ):=rfl
theorem Tryz.zv1 {n a b c:Int} {x y:Bool} (hn:1≤n∧n≤32768) (ha:0≤a∧a<n) (hb:0≤b∧b<n) (hc:0≤c∧c≤n) (w:World):
  Calls prog 134 #[bQ a x,bQ b y,.int .i64 c,.int .i64 n] w fun e w'=>e= .returned (.tuple #[.bool (oO n a x b y c),.int .i64 0])∧Below w.heap.size w w':=by
 have D:=zR (n:=n) (a:=a) (c:=c) (b:=b) (x:=x) (y:=y) hn ⟨ha.1,by omega⟩ ⟨hc.1,by omega⟩ ⟨hb.1,by omega⟩;generalize yL n a c b x y=ρ at D;refine yaq (zap (ρ:=ρ) (K:=fun _=>False) (g:=bg.none) (bl:= []) (vals:= [bQ a x,bQ b y,.int .i64 c,.int .i64 n]) mixed zCA zEL (fun b h=>h.elim) trivial trivial fo trivial (af (dO (af (ai D.d4) (af (aU D.b0) RL.nil))) (af (dO (af (ai D.d6) (af (aU D.b1) RL.nil))) (af (ai D.d5) (af (ai D.d0) RL.nil)))) (aR.2 trivial)) fun e w' hh=> ?_;obtain ⟨p,hpm,hto,l,hl,j,he⟩:=hh;have hbl:=gF he (fun _ h=>h);have q4:SE.den ρ (.aQ [⟨4,0,4611686018427387903,0,16,0⟩] 0)=a:=(jB (by rw [D.i4];exact ha.1) (by rw [D.i4];show a≤4611686018427387903;omega)).trans (by rw [D.i4];show a/1%65536*1=a;omega);have q6:SE.den ρ (.aQ [⟨6,0,4611686018427387903,0,16,0⟩] 0)=b:=(jB (by rw [D.i6];exact hb.1) (by rw [D.i6];show b≤4611686018427387903;omega)).trans (by rw [D.i6];show b/1%65536*1=b;omega);have w1:IntKind.wrap .i64 (a-n)=a-n:=gy (by omega) (by omega);have w2:IntKind.wrap .i64 (b-c)=b-c:=gy (by omega) (by omega);unfold UY at hpm;simp only [yad,yag,yaB] at hpm;rcases hpm with rfl|rfl|rfl|rfl|rfl
 all_goals
  simp only [aH,aR,je,gZ,AY,bR,D.d0,D.d4,D.d5,D.d6,D.b0,D.b1,yat,yas,ya7,yaH,ycX,yaN] at hto;cases hl;refine ⟨?_,hbl⟩
 ·omega
 ·omega
 ·omega
 ·rw [he.ret];simp only [AV.val,AV.aI,fF,iG,Ip,aC,zyn,zyL,D.d0,D.d4,D.d5,D.d6,q4,q6,w1,w2,Hy];unfold oO;rw [yai hto.2.2.2];congr 5;exact ycn.2 (by omega)
 ·rw [he.ret];simp only [AV.val,AV.aI,fF,iG,Ip,aC,zyn,zyL,D.d0,D.d4,D.d5,D.d6,q4,q6,w1,w2,Hy];unfold oO;rw [yaj hto.2.2.2];congr 5;exact ycn.2 (by omega)
open Go.Maps Go.Sort Go.Deep
set_option maxRecDepth 100000 in
theorem Tryz.zvR {n us ct f:Int} {uw:Bool} (hn:1≤n∧n≤32768) (hu:0≤us∧us<n) (hc:0≤ct∧ct≤n) (hf:0≤f∧f<4294967296) (w:World):
    Calls prog 110 #[.int .u64 f,bQ us uw,.int .i64 ct,.int .i64 n] w fun e w'=>e= .returned (.bool (lD n us uw ct f false))∧Below w.heap.size w w':=by
  have h1:=fun w'=>zzg hf w';have h2:=fun w'=>zzj (f:=f%65536) (n:=n) (by omega) hn w';have h3:=fun (q:f%32768<n) w'=>zv1 (n:=n) (a:=f%32768) (b:=us) (c:=ct) (x:=decide (f/32768%2=1)) (y:=uw) hn ⟨by omega,q⟩ hu hc w';have e1:f%65536%32768=f%32768:=by omega
  have e2:f%65536/32768%2=f/32768%2:=by omega
  rw [e1,e2] at h2;clear e1 e2;have t1:(f/65536).tmod 4=f/65536%4:=ycP (by omega);have hb0:=(yah w.heap.size w).alloc (yab _) (Obj.cells #[.int .i64 us,.bool uw] 35);unfold lD;by_cases k0:f/65536%4=0
  · rw [yaj k0];go_enter func110,ntmps110;unfold bQ;go_wp2_with (first
      | (go_at_call 132;refine (h1 _).mono ?_;rintro en w1 ⟨rfl,hb1⟩)
      | go_in)
    go_ret;exact ⟨rfl,(hb0.trans (hb1.mono (by simp))).alloc (by have:=hb1.size;simp at this;omega) _⟩
  · rw [yai k0];by_cases k2:f/65536%4=2
    · rw [yaj k2];by_cases kn:f%32768<n
      · rw [yaj kn];have h3:=h3 kn;simp only [yaj kn] at h2;unfold bQ at h2 h3;generalize oO n (f%32768) (decide (f/32768%2=1)) us uw ct=res at h3 ⊢;go_enter func110,ntmps110;unfold bQ;go_wp2_with (first
          | (go_at_call 132;refine (h1 _).mono ?_;rintro en w1 ⟨rfl,hb1⟩;have k5:=((Cl.new w #[.int .i64 us,.bool uw] 35).below hb1 (by simp)).alloc (Obj.cells #[.int .u16 (f%65536),.int .u16 (f/65536)] 174))
          | (go_at_call 133;refine (h2 _).mono ?_;rintro en w2 ⟨rfl,hb2⟩;have j5:=(k5.below hb2 k5.lt).alloc (Obj.cells #[.int .i64 (f%32768),.bool (decide (f/32768%2=1))] 35);have c50:=j5.cell 0 _ rfl;have c51:=j5.cell 1 _ rfl)
          | (go_at_call 134;refine (h3 _).mono ?_;rintro en w3 ⟨rfl,hb3⟩)
          | go_in)
        go_ret;have s1:=hb1.size;have s2:=hb2.size;have s3:=hb3.size;simp at s1 s2 s3;exact ⟨rfl,((((hb0.trans (hb1.mono (by simp))).alloc (by omega) _).trans (hb2.mono (by simp;omega))).alloc (by omega) _).trans (hb3.mono (by simp;omega))⟩
      · rw [yai kn];simp only [yai kn] at h2;unfold bQ at h2;clear h3;go_enter func110,ntmps110;unfold bQ;go_wp2_with (first
          | (go_at_call 132;refine (h1 _).mono ?_;rintro en w1 ⟨rfl,hb1⟩)
          | (go_at_call 133;refine (h2 _).mono ?_;rintro en w2 ⟨rfl,hb2⟩)
          | go_in)
        go_ret;have s1:=hb1.size;have s2:=hb2.size;simp at s1 s2;exact ⟨rfl,(((hb0.trans (hb1.mono (by simp))).alloc (by omega) _).trans (hb2.mono (by simp;omega))).alloc (by omega) _⟩
    · rw [yai k2];go_enter func110,ntmps110;unfold bQ;go_wp2_with (first
        | (go_at_call 132;refine (h1 _).mono ?_;rintro en w1 ⟨rfl,hb1⟩)
        | go_in)
      go_ret;exact ⟨rfl,(hb0.trans (hb1.mono (by simp))).alloc (by have:=hb1.size;simp at this;omega) _⟩
end Go.Proofs
namespace Go.Proofs
open Go.Dw Go.RowKit
def Tryz.oh:AV:= .agg [.bool (.lit true),.int .i64 (aF 0),.int .u64 (aj 1),.int .u64 (aj 2),.int .u64 (aj 3)]
def Tryz.LK (ph:Int) (br:SB):List AV:=
  [.cst 0 none,.bool (.lit true),.int .i64 (aF 0),.int .u64 (aj 1),.int .u64 (aj 2),.int .u64 (aj 3),.bool (.var 0),.bool (.var 1),.bool (.lit true),.int .i64 (ah 4),.bool (.var 2),.int .i64 (ah 5),.bool (.var 6),.map 2,.int .i64 (ah 9),.int .i64 (.lit ph),
   .int .i64 (.var 6),.bool (.var 3),.int .i64 (aK 7),.cst 1 none,.int .u32 (aW 8),.bool (.var 4),.bool (.var 5),.bool br]
def Tryz.oo (ph:Int):List Sh:= [.own (LK ph (.lit false)),.dB []]
def Tryz.wJ (ph:Int) (k:AV) (v:Option AV):List Sh:= [.own (LK ph (.lit false)),.dB [(k,v)]]
def Tryz.sJ (i:Nat) (k:Int):SE:= .bin .add .u64 (.bin .add .u64 (aj 1) (.bin .mul .u64 (.lit 16) (ah i))) (.lit k)
def Tryz.LH (a:SE):aG:=⟨53,[.cst 0 none,.int .u64 a,.int .i64 (.lit 2)],0,0,0,.ay [.int .u64 (aK 11),.int .i64 (.lit 0)],0⟩
def Tryz.Cw (a:SE):aG:=⟨53,[.cst 0 none,.int .u64 a,.int .i64 (.lit 4)],0,0,0,.ay [.int .u64 (aW 11),.int .i64 (.lit 0)],0⟩
def Tryz.FD (a:SE) (k:Int) (v:SE):aG:=⟨25,[.cst 0 none,.int .u64 a,.int .i64 (.lit k),.int .u64 v],0,0,0,.int .i64 (.lit 0),1⟩
def Tryz.CB (e:SE):aG:=⟨122,[.cst 0 none,oh,.agg [.int .i64 (ah 4),.bool (.var 2)],.bool (.var 1)],0,9,1,.ay [.agg [.int .i64 (aK 13),.int .i64 (ah 14),.opq 9 none],.int .i64 e],1⟩
def Tryz.SN:aG:=⟨57,[.opq 9 none],1,11,1,.opq 11 none,2⟩
def Tryz.abv:aG:=⟨121,[.agg [.int .i64 (ah 4),.bool (.var 2)]],0,0,0,.int .u16 (aK 18),0⟩
def Tryz.SL:aG:=⟨152,[.int .u16 (aK 11),.bool (.var 2)],0,0,0,.bool (.var 7),0⟩
def Tryz.SV (f:Int):aG:=⟨126,[.int .u16 (.lit f),.bool (.var 6),.bool (.lit true)],0,0,0,.int .u16 (aK 18),0⟩
def Tryz.Cv (k:Nat) (aD wr ct:Nat):aG:=⟨123,[.agg [.int .i64 (ah aD),.bool (.var wr)],.int .i64 (ah ct),.int .i64 (aF 0)],k,0,0,.ay [.agg [.int .i64 (ah 15),.bool (.var 8)],.int .i64 (.lit 0)],k⟩
def Tryz.SX:aG:=⟨129,[.agg [.int .i64 (.aQ [⟨11,0,4294967295,0,15,0⟩] 0),.bool (.cmp .eql (.aQ [⟨11,0,4294967295,15,1,0⟩] 0) (.lit 1))],.agg [.int .i64 (ah 15),.bool (.var 8)],.int .i64 (ah 14),.int .i64 (aF 0)],0,0,0,.ay [.bool (.var 9),.int .i64 (.lit 0)],0⟩
end Go.Proofs
end
