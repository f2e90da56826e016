/-
  Proved: laws on the way to 'SdriveHoldsProof' (texts DwLaw DwRel DwMem DwMap DwSym); no condition.
-/
import Derived.Test.YtaichlekaoefpaaGreatM0
import Derived.Laws.Cells
import Derived.Laws.CopyRow
import Derived.Laws.AppendOwn
import Derived.LoopN
import Derived.RowKit3
import Derived.Below
set_option linter.unusedSimpArgs false
set_option linter.unusedVariables false
set_option maxHeartbeats 4000000
noncomputable section
namespace Go.Dw
namespace T
variable {α:Type}
theorem zch (n:Nat):(leaf:T α).get n=none:=rfl
theorem zee (l:T α) (v:Option α) (r:T α):(node l v r).get 0=v:=rfl
theorem zcg (l:T α) (v:Option α) (r:T α) (m:Nat):
  (node l v r).get (m+1)=if m%2=0 then l.get (m/2) else r.get (m/2):=by
 show Nat.casesOn (motive:=fun _=>Option α) (Nat.mod m 2) (l.get (Nat.div m 2)) (fun _=>r.get (Nat.div m 2))=_;have h:Nat.mod m 2=m%2:=rfl;have h2:Nat.div m 2=m/2:=rfl;rw [h,h2];cases e:m%2 with
 | zero=>rw [if_pos rfl];rfl
 | succ k=>rw [if_neg (by omega)]
theorem zt0 (v:Option α) (r l:T α):mkL v r l=node l v r:=by cases l<;>rfl
theorem ztZ (v:Option α) (l r:T α):mkR v l r=node l v r:=by cases r<;>rfl
theorem zhH (f:Nat) (x:α):setF (f+1) leaf 0 x=node leaf (some x) leaf:=rfl
theorem zhF (f:Nat) (l:T α) (v:Option α) (r:T α) (x:α):setF (f+1) (node l v r) 0 x=node l (some x) r:=rfl
theorem zhI (f m:Nat) (x:α):setF (f+1) (leaf:T α) (m+1) x=
  if m%2=0 then node (setF f leaf (m/2) x) none leaf else node leaf none (setF f leaf (m/2) x):=by
 show Nat.casesOn (motive:=fun _=>T α) (Nat.mod m 2) (mkL none leaf (setF f leaf (Nat.div m 2) x)) (fun _=>mkR none leaf (setF f leaf (Nat.div m 2) x))=_;have h:Nat.mod m 2=m%2:=rfl;have h2:Nat.div m 2=m/2:=rfl;rw [h,h2];cases e:m%2 with
 | zero=>rw [if_pos rfl];exact zt0 _ _ _
 | succ k=>rw [if_neg (by omega)];exact ztZ _ _ _
theorem zhG (f m:Nat) (l:T α) (v:Option α) (r:T α) (x:α):setF (f+1) (node l v r) (m+1) x=
  if m%2=0 then node (setF f l (m/2) x) v r else node l v (setF f r (m/2) x):=by
 show Nat.casesOn (motive:=fun _=>T α) (Nat.mod m 2) (mkL v r (setF f l (Nat.div m 2) x)) (fun _=>mkR v l (setF f r (Nat.div m 2) x))=_;have h:Nat.mod m 2=m%2:=rfl;have h2:Nat.div m 2=m/2:=rfl;rw [h,h2];cases e:m%2 with
 | zero=>rw [if_pos rfl];exact zt0 _ _ _
 | succ k=>rw [if_neg (by omega)];exact ztZ _ _ _
theorem ztn: ∀(f:Nat) (t:T α) (n m:Nat) (x:α),n<f→(setF f t n x).get m=if m=n then some x else t.get m:=by
 intro f
 induction f with
 | zero=>intro t n m x h;omega
 | succ f ih=>
  intro t n m x h;cases n with
  | zero=>
   cases t with
   | leaf=>
    rw [zhH];cases m with
    | zero=>rfl
    | succ m=>rw [zcg];simp [zch]
   | node l v r=>
    rw [zhF];cases m with
    | zero=>rfl
    | succ m=>rw [zcg,zcg];simp
  | succ n=>
   have hn:n/2<f:=by omega
   cases t with
   | leaf=>
    rw [zhI];by_cases hp:n%2=0
    ·rw [if_pos hp];cases m with
     | zero=>rw [zee];simp [zch]
     | succ m=>
      rw [zcg,zch,zch,ih _ _ _ _ hn,zch];by_cases hm:m%2=0
      ·rw [if_pos hm];by_cases e:m/2=n/2
       ·rw [if_pos e,if_pos (by omega)]
       ·rw [if_neg e,if_neg (by omega)]
      ·rw [if_neg hm,if_neg (by omega)]
    ·rw [if_neg hp];cases m with
     | zero=>rw [zee];simp [zch]
     | succ m=>
      rw [zcg,zch,zch,ih _ _ _ _ hn,zch];by_cases hm:m%2=0
      ·rw [if_pos hm,if_neg (by omega)]
      ·rw [if_neg hm];by_cases e:m/2=n/2
       ·rw [if_pos e,if_pos (by omega)]
       ·rw [if_neg e,if_neg (by omega)]
   | node l v r=>
    rw [zhG];by_cases hp:n%2=0
    ·rw [if_pos hp];cases m with
     | zero=>rw [zee,zee];simp
     | succ m=>
      rw [zcg,zcg,ih _ _ _ _ hn];by_cases hm:m%2=0
      ·rw [if_pos hm,if_pos hm];by_cases e:m/2=n/2
       ·rw [if_pos e,if_pos (by omega)]
       ·rw [if_neg e,if_neg (by omega)]
      ·rw [if_neg hm,if_neg hm,if_neg (by omega)]
    ·rw [if_neg hp];cases m with
     | zero=>rw [zee,zee];simp
     | succ m=>
      rw [zcg,zcg,ih _ _ _ _ hn];by_cases hm:m%2=0
      ·rw [if_pos hm,if_pos hm,if_neg (by omega)]
      ·rw [if_neg hm,if_neg hm];by_cases e:m/2=n/2
       ·rw [if_pos e,if_pos (by omega)]
       ·rw [if_neg e,if_neg (by omega)]
theorem get_set (t:T α) (n m:Nat) (x:α):(t.set n x).get m=if m=n then some x else t.get m:=ztn _ _ _ _ _ (Nat.lt_succ_self n)
theorem get_set_same (t:T α) (n:Nat) (x:α):(t.set n x).get n=some x:=by rw [get_set,if_pos rfl]
theorem get_set_ne (t:T α) {n m:Nat} (x:α) (h:m≠n):(t.set n x).get m=t.get m:=by rw [get_set,if_neg h]
end T
theorem zbK {β:Type} (n:Nat) (k:Nat→β):zdA n k=k n:=by cases n<;>rfl
theorem Vec.get_eq (v:Vec) (i:Nat):v.get i=(v.t.get i).getD v.d:=by
 unfold Vec.get;cases v.t.get i<;>rfl
theorem Vec.set_eq (v:Vec) (i:Nat) (x:AV):v.set i x=⟨v.t.set i x,v.n,v.d⟩:=by
 obtain ⟨t,n,d⟩:=v;show (match t.set i x with| .leaf=>(⟨.leaf,n,d⟩:Vec)| .node a b c=>⟨.node a b c,n,d⟩)=_;cases t.set i x<;>rfl
theorem Vec.get_set (v:Vec) (i j:Nat) (x:AV):(v.set i x).get j=if j=i then x else v.get j:=by
 rw [Vec.set_eq,Vec.get_eq,Vec.get_eq,T.get_set];by_cases h:j=i<;>simp [h]
theorem Vec.n_set (v:Vec) (i:Nat) (x:AV):(v.set i x).n=v.n:=by rw [Vec.set_eq]
theorem Vec.n_put: ∀(l:List AV) (v:Vec) (i:Nat),(v.put i l).n=v.n
 | [], _,_=>rfl
 | x::l,v,i=>by unfold Vec.put;rw [Vec.n_put l,Vec.n_set]
theorem Vec.get_put: ∀(l:List AV) (v:Vec) (i j:Nat),(v.put i l).get j=if h:i≤j∧j<i+l.length then l[j-i]'(by omega) else v.get j
 | [], v,i,j=>by
  unfold Vec.put;rw [dif_neg (by simp)]
 | x::l,v,i,j=>by
  unfold Vec.put;rw [Vec.get_put l,Vec.get_set];by_cases h:j=i
  ·subst h;rw [dif_neg (by simp;omega),if_pos rfl,dif_pos (by simp)];simp
  ·by_cases h2:i≤j∧j<i+(x::l).length
   ·rw [dif_pos (by simp at h2 ⊢;omega),dif_pos h2];have e:j-i=(j-Nat.succ i)+1:=by simp at h2;omega
    simp only [e,List.getElem_cons_succ]
   ·rw [dif_neg (by simp at h2 ⊢;omega),dif_neg h2,if_neg h]
theorem Vec.n_ofList (l:List AV):(Vec.ofList l).n=l.length:=by unfold Vec.ofList;rw [Vec.n_put]
theorem Vec.get_ofList (l:List AV) (i:Nat) (h:i<l.length):(Vec.ofList l).get i=l[i]:=by
 unfold Vec.ofList;rw [Vec.get_put,dif_pos (by omega)];simp
theorem Vec.length_list: ∀(n:Nat) (v:Vec) (i:Nat),(v.list i n).length=n
 | 0,_,_=>rfl
 | n+1,v,i=>by unfold Vec.list;rw [List.length_cons,Vec.length_list]
theorem Vec.getElem_list: ∀(n:Nat) (v:Vec) (i k:Nat) (h:k<n),(v.list i n)[k]? =some (v.get (i+k))
 | 0,_,_,_,h=>by omega
 | n+1,v,i,0,_=>by unfold Vec.list;simp
 | n+1,v,i,k+1,h=>by
  unfold Vec.list;rw [List.getElem?_cons_succ,Vec.getElem_list n v (Nat.succ i) k (by omega)];congr 2;omega
theorem zwW (x y:Int):ltI x y=decide (x<y):=by
 cases x<;>cases y<;>unfold ltI<;>rw [Bool.eq_iff_iff]<;>simp [Nat.blt_eq]<;>omega
theorem zt8 (x y:Int):eqI x y=(x==y):=by
 cases x<;>cases y<;>unfold eqI<;>rw [Bool.eq_iff_iff]<;>simp [Nat.beq_eq]<;>omega
theorem zvX (o:BinOp) (x y:Int):cmpF o x y=zem o x y:=by
 cases o<;>simp only [cmpF,zem,zt8,zwW]
 case neq=>show (match (x==y) with|true=>false|false=>true)=(!(x==y));cases (x==y)<;>rfl
 case leq=>by_cases h:y<x<;>simp [h]<;>omega
 all_goals (by_cases h:x<y<;>simp [h]<;>omega)
theorem zv6 (x y:Int):addI x y=x+y:=by cases x<;>cases y<;>rfl
theorem zvv (x y:Int):mulI x y=x*y:=by cases x<;>cases y<;>rfl
theorem zvR (x y:Int):divI x y=x.tdiv y:=by cases x<;>cases y<;>rfl
theorem zvw (x y:Int):modI x y=x.tmod y:=by cases x<;>cases y<;>rfl
theorem zuO (x y:Int):subI x y=x-y:=by
 cases x<;>cases y<;>try rfl
 rename_i a b;have e:subI (Int.ofNat a) (Int.ofNat b)=match Nat.ble b a with|true=>Int.ofNat (Nat.sub a b)|false=>Int.negSucc (Nat.sub (Nat.sub b a) 1):=rfl
 rw [e];cases h:Nat.ble b a with
 | true=>
  have:=Nat.le_of_ble_eq_true h;show Int.ofNat (a-b)=(a:Int)-(b:Int);simp only [Int.ofNat_eq_natCast];omega
 | false=>
  have: ¬b≤a:=fun hh=>by rw [Nat.ble_eq_true_of_le hh] at h;cases h
  show Int.negSucc (b-a-1)=(a:Int)-(b:Int);rw [Int.negSucc_eq];omega
theorem zdE {k:IntKind} {n:Int} (h1:k.min≤n) (h2:n≤k.max):k.wrap n=n:=by
 cases k<;>simp [IntKind.min,IntKind.max,IntKind.signed,IntKind.bits] at h1 h2<;>simp [IntKind.wrap,IntKind.signed,IntKind.bits]<;>omega
theorem zgf (k:IntKind) (n:Int):zgz k n=k.wrap n:=by
 cases n with
 | ofNat m=>
  have e:zgz k (Int.ofNat m)=match Nat.blt m (zcR k) with|true=>Int.ofNat m|false=>k.wrap (Int.ofNat m):=rfl
  rw [e];cases h:Nat.blt m (zcR k) with
  | true=>
   rw [Nat.blt_eq] at h;refine (zdE ?_ ?_).symm<;>cases k<;>simp [zcR] at h<;>simp [IntKind.min,IntKind.max,IntKind.signed,IntKind.bits]<;>omega
  | false=>rfl
 | negSucc m=>
  have e:zgz k (Int.negSucc m)=match k.signed with|true=>(match Nat.blt m (zcR k) with|true=>Int.negSucc m|false=>k.wrap (Int.negSucc m))|false=>k.wrap (Int.negSucc m):=rfl
  rw [e];cases hs:k.signed with
  | false=>rfl
  | true=>
   cases h:Nat.blt m (zcR k) with
   | true=>
    rw [Nat.blt_eq] at h;refine (zdE ?_ ?_).symm<;>cases k<;>simp [zcR] at h<;>simp [IntKind.signed] at hs<;>simp [IntKind.min,IntKind.max,IntKind.signed,IntKind.bits]<;>omega
   | false=>rfl
theorem ofInt_ofNat (n x:Nat):BitVec.ofInt n (Int.ofNat x)=BitVec.ofNat n x:=by
 apply BitVec.eq_of_toNat_eq;simp
theorem zge {k:IntKind} {m:Nat} (h:m<zcR k):k.wrap ((m:Nat):Int)=Int.ofNat m:=by
 refine zdE ?_ ?_<;>cases k<;>simp [zcR] at h<;>simp [IntKind.min,IntKind.max,IntKind.signed,IntKind.bits]<;>omega
theorem zpw (k:IntKind): ∃e,zcR k=2^e∧e≤k.bits:=by
 cases k<;>simp only [zcR,IntKind.bits]
 ·exact ⟨7,by decide,by decide⟩
 ·exact ⟨15,by decide,by decide⟩
 ·exact ⟨31,by decide,by decide⟩
 ·exact ⟨63,by decide,by decide⟩
 ·exact ⟨8,by decide,by decide⟩
 ·exact ⟨16,by decide,by decide⟩
 ·exact ⟨32,by decide,by decide⟩
 ·exact ⟨64,by decide,by decide⟩
theorem zfc (o:BinOp) (ho:o= .and∨o= .or∨o= .xor∨o= .andNot) (k:IntKind) (x y:Int):bitsF o k x y=zct o k x y:=by
 cases x with
 | negSucc a=>cases y<;>rfl
 | ofNat a=>
  cases y with
  | negSucc b=>rfl
  | ofNat b=>
   cases ha:Nat.blt a (zcR k) with
   | false=>simp only [bitsF,ha]
   | true=>
    cases hb:Nat.blt b (zcR k) with
    | false=>simp only [bitsF,ha,hb]
    | true=>
     have key:bitsF o k (Int.ofNat a) (Int.ofNat b)=bitsF.nat o a b:=by simp only [bitsF,ha,hb]
     rw [key];rw [Nat.blt_eq] at ha hb;obtain ⟨e,he,hle⟩:=zpw k;have ha2:a<2^k.bits:=Nat.lt_of_lt_of_le (he▸ha) (Nat.pow_le_pow_right (by omega) hle);have hb2:b<2^k.bits:=Nat.lt_of_lt_of_le (he▸hb) (Nat.pow_le_pow_right (by omega) hle);have ea:(BitVec.ofNat k.bits a).toNat=a:=by rw [BitVec.toNat_ofNat,Nat.mod_eq_of_lt ha2]
     have eb:(BitVec.ofNat k.bits b).toNat=b:=by rw [BitVec.toNat_ofNat,Nat.mod_eq_of_lt hb2]
     rcases ho with rfl|rfl|rfl|rfl
     ·show Int.ofNat (a&&&b)=k.wrap _;rw [ofInt_ofNat,ofInt_ofNat,BitVec.toNat_and,ea,eb,zge (by rw [he];exact Nat.and_lt_two_pow _ (he▸hb))]
     ·show Int.ofNat (a|||b)=k.wrap _;rw [ofInt_ofNat,ofInt_ofNat,BitVec.toNat_or,ea,eb,zge (by rw [he];exact Nat.or_lt_two_pow (he▸ha) (he▸hb))]
     ·show Int.ofNat (a^^^b)=k.wrap _;rw [ofInt_ofNat,ofInt_ofNat,BitVec.toNat_xor,ea,eb,zge (by rw [he];exact Nat.xor_lt_two_pow (he▸ha) (he▸hb))]
     ·show Int.ofNat (a^^^(a&&&b))=k.wrap (((BitVec.ofInt k.bits (Int.ofNat a)&&& ~~~(BitVec.ofInt k.bits (Int.ofNat b))).toNat:Nat):Int);have e3:(BitVec.ofInt k.bits (Int.ofNat a)&&& ~~~(BitVec.ofInt k.bits (Int.ofNat b))).toNat=a^^^(a&&&b):=by
       rw [ofInt_ofNat,ofInt_ofNat,BitVec.toNat_and,ea];apply Nat.eq_of_testBit_eq;intro i;rw [Nat.testBit_and,Nat.testBit_xor,Nat.testBit_and];by_cases hi:i<k.bits
       ·have:(~~~(BitVec.ofNat k.bits b)).toNat.testBit i= !(b.testBit i):=by
         have h1:(~~~(BitVec.ofNat k.bits b)).toNat.testBit i=(~~~(BitVec.ofNat k.bits b)).getLsbD i:=rfl;rw [h1,BitVec.getLsbD_not];have h2:(BitVec.ofNat k.bits b).getLsbD i=(BitVec.ofNat k.bits b).toNat.testBit i:=rfl;rw [h2,eb];simp [hi]
        rw [this];cases a.testBit i<;>cases b.testBit i<;>rfl
       ·have:a.testBit i=false:=Nat.testBit_lt_two_pow (Nat.lt_of_lt_of_le ha2 (Nat.pow_le_pow_right (by omega) (by omega)));simp [this]
      rw [e3,zge (by rw [he];exact Nat.xor_lt_two_pow (he▸ha) (Nat.and_lt_two_pow _ (he▸hb)))]
theorem zqH (y b:Nat):(match Nat.blt y b with|true=>y|false=>b)=min y b:=by
 cases h:Nat.blt y b with
 | true=>rw [Nat.blt_eq] at h;simp;omega
 | false=>
  have: ¬y<b:=fun hh=>by rw [←Nat.blt_eq] at hh;rw [hh] at h;cases h
  simp;omega
theorem zuS (k:IntKind) (x:Int) (y:Nat):shrF k x y=x.fdiv (2^(min y k.bits)):=by
 cases x with
 | negSucc a=>rfl
 | ofNat a=>
  show Int.ofNat (Nat.div a (Nat.pow 2 (match Nat.blt y k.bits with|true=>y|false=>k.bits)))=_;rw [zqH];show ((a/2^(min y k.bits):Nat):Int)=_;rw [Int.natCast_ediv,Int.fdiv_eq_ediv_of_nonneg _ (by exact_mod_cast Nat.zero_le _)];simp
theorem zuT (k:IntKind) (x:Int) (y:Nat):shlF k x y=k.wrap (x*2^(min y k.bits)):=by
 cases x with
 | negSucc a=>rfl
 | ofNat a=>
  show zgz k (Int.ofNat (Nat.mul a (Nat.pow 2 (match Nat.blt y k.bits with|true=>y|false=>k.bits))))=_;rw [zqH,zgf];congr 1
theorem zq1 {o:BinOp} {k:IntKind} {x y z:Int} (h:intF o k x y=some z):zcq o k x y=z:=by
 cases o<;>simp only [intF,zv6,zuO,zvv,zvR,zvw,zgf] at h
 case add=>exact Option.some.inj h
 case sub=>exact Option.some.inj h
 case mul=>exact Option.some.inj h
 case quo=>split at h<;>simp_all [zcq]
 case rem=>split at h<;>simp_all [zcq]
 case shl=>split at h<;>simp_all [zcq,zuT]
 case shr=>split at h<;>simp_all [zcq,zuS]
 case and=>rw [zfc _ (by simp)] at h;exact Option.some.inj h
 case or=>rw [zfc _ (by simp)] at h;exact Option.some.inj h
 case xor=>rw [zfc _ (by simp)] at h;exact Option.some.inj h
 case andNot=>rw [zfc _ (by simp)] at h;exact Option.some.inj h
 all_goals cases h
theorem zqT {k k':IntKind} (h:Nat.beq (kn k) (kn k')=true):k=k':=by
 cases k<;>cases k'<;>first|rfl|cases h
theorem zaj {a b:Nat} (h:Nat.beq a b=true):a=b:=Nat.eq_of_beq_eq_true h
theorem zfs: ∀ {a b:List Nat},zcL a b=true→a=b
 | [], [], _=>rfl
 | [], _::_,h=>by cases h
 | _::_,[],h=>by cases h
 | a::l,b::m,h=>by
  unfold zcL at h;split at h
  ·rename_i h1;rw [zaj h1,zfs h]
  ·cases h
theorem zdO: ∀(a:List Nat),zcL a a=true
 | [] => rfl
 | a::l=>by unfold zcL;rw [Nat.beq_refl];exact zdO l
theorem zlI {a b:List Nat}:zcL a b=decide (a=b):=by
 by_cases h:a=b
 ·subst h;simp [zdO]
 ·cases e:zcL a b with
  | true=>exact absurd (zfs e) h
  | false=>simp [h]
theorem Fld.beq_eq {f g:Fld} (h:Fld.beq f g=true):f=g:=by
 obtain ⟨a,b,c,d,e,p⟩:=f;obtain ⟨a',b',c',d',e',p'⟩:=g;unfold Fld.beq at h;simp only at h;split at h
 ·rename_i h1 h2 h3 h4 h5 h6;rw [zaj h1,zaj h2,zaj h3,zaj h4,zaj h5,zaj h6]
 ·cases h
theorem zim: ∀ {l m:List Fld},zji l m=true→l=m
 | [], [], _=>rfl
 | [], _::_,h=>by cases h
 | _::_,[],h=>by cases h
 | f::l,g::m,h=>by
  unfold zji at h;split at h
  ·rename_i h1;rw [Fld.beq_eq h1,zim h]
  ·cases h
theorem SE.beq_eq: ∀ {a b:SE},SE.beq a b=true→a=b:=by
 intro a
 induction a with
 | lit n=>
  intro b h;cases b<;>simp only [SE.beq] at h<;>try cases h
  split at h
  ·rw [zaj h]
  ·rw [zaj h]
  ·cases h
 | var i=>
  intro b h;cases b<;>simp only [SE.beq] at h<;>try cases h
  rw [zaj h]
 | bin o k a b iha ihb=>
  intro c h;cases c<;>simp only [SE.beq] at h<;>try cases h
  split at h
  ·split at h
   ·split at h
    ·rename_i h1 h2 _ h3;rw [h1,h2,iha h3,ihb h]
    ·cases h
   ·cases h
  ·cases h
 | wrap k a ih=>
  intro c h;cases c<;>simp only [SE.beq] at h<;>try cases h
  split at h
  ·rename_i h1;rw [h1,ih h]
  ·cases h
 | flds l c=>
  intro b h;cases b<;>simp only [SE.beq] at h<;>try cases h
  split at h
  ·rename_i h1;rw [zim h1,zaj h]
  ·cases h
theorem SB.eqv_eq: ∀ {a b:SB},SB.eqv a b=true→a=b:=by
 intro a
 induction a with
 | lit n=>
  intro b h;cases b<;>simp only [SB.eqv] at h<;>try cases h
  simp at h;rw [h]
 | var i=>
  intro b h;cases b<;>simp only [SB.eqv] at h<;>try cases h
  rw [zaj h]
 | cmp o a b=>
  intro c h;cases c<;>simp only [SB.eqv] at h<;>try cases h
  split at h
  ·split at h
   ·rename_i h1 _ h2;rw [h1,SE.beq_eq h2,SE.beq_eq h]
   ·cases h
  ·cases h
 | not a ih=>
  intro b h;cases b<;>simp only [SB.eqv] at h<;>try cases h
  rw [ih h]
 | beq a b iha ihb=>
  intro c h;cases c<;>simp only [SB.eqv] at h<;>try cases h
  split at h
  ·rename_i h1;rw [iha h1,ihb h]
  ·cases h
 | and a b iha ihb=>
  intro c h;cases c<;>simp only [SB.eqv] at h<;>try cases h
  split at h
  ·rename_i h1;rw [iha h1,ihb h]
  ·cases h
theorem CapI.beq_eq {a b:CapI} (h:CapI.beq a b=true):a=b:=by
 cases a<;>cases b<;>simp only [CapI.beq] at h<;>first|rw [zaj h]|cases h
theorem zkl {a b:Option SE} (h:zno a b=true):a=b:=by
 cases a<;>cases b<;>simp only [zno] at h<;>first|rfl|rw [SE.beq_eq h]|cases h
theorem zmR: ∀ {a b:List (SE×Nat)},zsa a b=true→a=b
 | [], [], _=>rfl
 | x::a,y::b,h=>by
  unfold zsa at h;split at h
  ·rename_i h1 h2;rw [zmR h,Prod.ext (SE.beq_eq h1) (zaj h2)]
  ·cases h
 | [], _::_,h=>by cases h
 | _::_,[],h=>by cases h
mutual
theorem AV.beq_eq: ∀ {a b:AV},AV.beq a b=true→a=b
 | .bool a,b,h=>by cases b<;>simp only [AV.beq] at h<;>first|rw [SB.eqv_eq h]|cases h
 | .int k n,b,h=>by
  cases b<;>simp only [AV.beq] at h<;>try cases h
  split at h
  ·split at h
   ·rename_i h1 h2;rw [SE.beq_eq h1,h2]
   ·cases h
  ·cases h
 | .str a,b,h=>by cases b<;>simp only [AV.beq] at h<;>first|rw [zfs h]|cases h
 | .nilp,b,h=>by cases b<;>simp only [AV.beq] at h<;>first|rfl|cases h
 | .ptr a c,b,h=>by
  cases b<;>simp only [AV.beq] at h<;>try cases h
  split at h
  ·rename_i h1;rw [zaj h1,zaj h]
  ·cases h
 | .nils,b,h=>by cases b<;>simp only [AV.beq] at h<;>first|rfl|cases h
 | .sl a c d e,b,h=>by
  cases b<;>simp only [AV.beq] at h<;>try cases h
  split at h
  ·rename_i h1 h2 h3;rw [zaj h1,zaj h2,zaj h3,CapI.beq_eq h]
  ·cases h
 | .emp,b,h=>by cases b<;>simp only [AV.beq] at h<;>first|rfl|cases h
 | .slu a,b,h=>by cases b<;>simp only [AV.beq] at h<;>first|rw [SE.beq_eq h]|cases h
 | .sla,b,h=>by cases b<;>simp only [AV.beq] at h<;>first|rfl|cases h
 | .nilm,b,h=>by cases b<;>simp only [AV.beq] at h<;>first|rfl|cases h
 | .map a,b,h=>by cases b<;>simp only [AV.beq] at h<;>first|rw [zaj h]|cases h
 | .func f l m,b,h=>by
  cases b<;>simp only [AV.beq] at h<;>try cases h
  split at h
  ·rename_i h1 h2;rw [zaj h1,AV.beqL_eq h2,AV.beqL_eq h]
  ·cases h
 | .nilf,b,h=>by cases b<;>simp only [AV.beq] at h<;>first|rfl|cases h
 | .nili,b,h=>by cases b<;>simp only [AV.beq] at h<;>first|rfl|cases h
 | .iface t v,b,h=>by
  cases b<;>simp only [AV.beq] at h<;>try cases h
  split at h
  ·rename_i h1;rw [zaj h1,AV.beq_eq h]
  ·cases h
 | .agg l,b,h=>by cases b<;>simp only [AV.beq] at h<;>first|rw [AV.beqL_eq h]|cases h
 | .tup l,b,h=>by cases b<;>simp only [AV.beq] at h<;>first|rw [AV.beqL_eq h]|cases h
 | .cst a l,b,h=>by
  cases b<;>simp only [AV.beq] at h<;>try cases h
  split at h
  ·rename_i h1;rw [zaj h1,zkl h]
  ·cases h
 | .opq a l,b,h=>by
  cases b<;>simp only [AV.beq] at h<;>try cases h
  split at h
  ·rename_i h1;rw [zaj h1,zkl h]
  ·cases h
 | .sx i n s l,b,h=>by
  cases b<;>simp only [AV.beq] at h<;>try cases h
  split at h
  ·rename_i h1 h2 h3;rw [zaj h1,SE.beq_eq h2,zaj h3,zmR h]
  ·cases h
 | .junk,b,h=>by cases b<;>simp only [AV.beq] at h<;>first|rfl|cases h
 | .nun c w,b,h=>by
  cases b<;>simp only [AV.beq] at h<;>try cases h
  split at h
  ·rename_i h1;split at h
   ·rw [SB.eqv_eq h1]
   ·rw [SB.eqv_eq h1]
   ·cases h
  ·cases h
theorem AV.beqL_eq: ∀ {a b:List AV},AV.beqL a b=true→a=b
 | [], b,h=>by cases b<;>simp only [AV.beqL] at h<;>first|rfl|cases h
 | x::l,b,h=>by
  cases b<;>simp only [AV.beqL] at h<;>try cases h
  split at h
  ·rename_i h1;rw [AV.beq_eq h1,AV.beqL_eq h]
  ·cases h
end
end Go.Dw
namespace Go.Dw
structure Loc where
 blk:Nat
 off:Nat
 cap:Nat
 q:Option Value
abbrev J:=Nat→Option Loc
def zjt (L:Loc):CapI→Nat
 | .known c=>c
 | .upto k=>L.cap-k
def zw9 (L:Loc) (len:Nat):CapI→Prop
 | .known c=>len≤c
 | .upto k=>k+len≤L.cap∧0<L.cap
def SXs (ρ:Val) (j:J) (sz:Nat) (b:Option Addr) (len:Nat):List (SE×Nat)→Prop
 | [] => True
 | p::l=>(∃bb o L k,b=some ⟨bb,o,none⟩∧j p.2=some L∧L.blk=bb∧p.1.den ρ=Int.ofNat k∧k<len∧L.off=o+sz*k)∧SXs ρ j sz b len l
mutual
def R (ρ:Val) (j:J):AV→Value→Prop
 | .bool b,v=>v= .bool (b.den ρ)
 | .int k n,v=>v= .int k (n.den ρ)
 | .str s,v=>(∀b∈s,b<256)∧v= .string ⟨(s.map UInt8.ofNat).toArray⟩
 | .nilp,v=>v= .pointer none
 | .ptr n o,v=> ∃L,j n=some L∧v= .pointer (some ⟨L.blk,L.off+o,none⟩)
 | .nils,v=>v= .slice none 0 0
 | .sl n o len cap,v=> ∃L,j n=some L∧zw9 L len cap∧v= .slice (some ⟨L.blk,L.off+o,none⟩) len (zjt L cap)
 | .emp,v=> ∃a c,v= .slice (some a) 0 c
 | .slu n,v=> ∃b l c,v= .slice b l c∧Int.ofNat l=n.den ρ
 | .sla,v=> ∃a l c,v= .slice (some a) l c
 | .nilm,v=>v= .map none
 | .map n,v=> ∃L,j n=some L∧v= .map (some L.blk)
 | .func f first cap,v=> ∃l m,v= .func (.func f) l.toArray m.toArray∧RL ρ j first l∧RL ρ j cap m
 | .nilf,v=>v= .nilFunc
 | .nili,v=>v= .nilIface
 | .iface t x,v=> ∃y,v= .iface t y∧R ρ j x y
 | .agg l,v=> ∃m,v= .agg m.toArray∧RL ρ j l m
 | .tup l,v=> ∃m,v= .tuple m.toArray∧RL ρ j l m
 | .cst i len,v=>v=ρ.v i∧v.oneCell'=true∧ ∀n,len=some n→ ∃b l c,v= .slice b l c∧Int.ofNat l=n.den ρ
 | .nun c b,v=>v=undef∧c.den ρ= !b
 | .junk,_=>False
 | .sx i n sz l,v=>v=ρ.v i∧ ∃b len cap,v= .slice b len cap∧Int.ofNat len=n.den ρ∧SXs ρ j sz b len l
 | .opq m len,v=>(∃L,j m=some L∧L.q=some v)∧v.oneCell'=true∧ ∀n,len=some n→ ∃b l c,v= .slice b l c∧Int.ofNat l=n.den ρ
def RL (ρ:Val) (j:J):List AV→List Value→Prop
 | [], l=>l= []
 | a::l,m=> ∃v m',m=v::m'∧R ρ j a v∧RL ρ j l m'
end
def Sub (j j':J):Prop:= ∀n L,j n=some L→j' n=some L
theorem Sub.refl (j:J):Sub j j:=fun _ _ h=>h
theorem Sub.trans {j j' j'':J} (h:Sub j j') (h':Sub j' j''):Sub j j'':=fun n L e=>h' n L (h n L e)
theorem SXs.mono {ρ:Val} {j j':J} (h: ∀n L,j n=some L→j' n=some L) {sz:Nat} {b:Option Addr} {len:Nat}: ∀ {l:List (SE×Nat)},SXs ρ j sz b len l→SXs ρ j' sz b len l
 | [], _=>trivial
 | _::_,r=>let ⟨⟨bb,o,L,k,h1,h2,h3⟩,h4⟩:=r;⟨⟨bb,o,L,k,h1,h _ _ h2,h3⟩,SXs.mono h h4⟩
mutual
theorem R.mono {ρ:Val} {j j':J} (h:Sub j j'): ∀ {a:AV} {v:Value},R ρ j a v→R ρ j' a v
 | .bool _,_,r=>r
 | .int _ _,_,r=>r
 | .str _,_,r=>r
 | .nilp,_,r=>r
 | .ptr _ _,_,r=>let ⟨L,e,x⟩:=r;⟨L,h _ _ e,x⟩
 | .nils,_,r=>r
 | .sl _ _ _ _,_,r=>let ⟨L,e,x⟩:=r;⟨L,h _ _ e,x⟩
 | .emp,_,r=>r
 | .slu _,_,r=>r
 | .sla,_,r=>r
 | .nilm,_,r=>r
 | .map _,_,r=>let ⟨L,e,x⟩:=r;⟨L,h _ _ e,x⟩
 | .func _ _ _,_,r=>let ⟨l,m,e,x,y⟩:=r;⟨l,m,e,RL.mono h x,RL.mono h y⟩
 | .nilf,_,r=>r
 | .nili,_,r=>r
 | .iface _ _,_,r=>let ⟨y,e,x⟩:=r;⟨y,e,R.mono h x⟩
 | .agg _,_,r=>let ⟨m,e,x⟩:=r;⟨m,e,RL.mono h x⟩
 | .tup _,_,r=>let ⟨m,e,x⟩:=r;⟨m,e,RL.mono h x⟩
 | .cst _ _,_,r=>r
 | .nun _ _,_,r=>r
 | .junk,_,r=>r.elim
 | .sx _ _ _ _,_,r=>let ⟨h1,b,len,cap,h2,h3,h4⟩:=r;⟨h1,b,len,cap,h2,h3,h4.mono h⟩
 | .opq _ _,_,r=>let ⟨⟨L,e,x⟩,y⟩:=r;⟨⟨L,h _ _ e,x⟩,y⟩
theorem RL.mono {ρ:Val} {j j':J} (h:Sub j j'): ∀ {a:List AV} {v:List Value},RL ρ j a v→RL ρ j' a v
 | [], _,r=>r
 | _::_,_,r=>let ⟨v,m,e,x,y⟩:=r;⟨v,m,e,R.mono h x,RL.mono h y⟩
end
section
variable {ρ:Val} {j:J}
theorem RL.length: ∀ {l:List AV} {m:List Value},RL ρ j l m→m.length=l.length
 | [], m,r=>by have e:m= []:=r;rw [e];rfl
 | _::l,_,r=>by obtain ⟨v,m,rfl,_,y⟩:=r;simp [RL.length y]
theorem RL.get: ∀ {l:List AV} {m:List Value},RL ρ j l m→ ∀(i:Nat) (a:AV),l[i]? =some a→ ∃v,m[i]? =some v∧R ρ j a v
 | [], _,_,_,_,h=>by simp at h
 | _::l,_,r,0,a,h=>by obtain ⟨v,m,rfl,x,_⟩:=r;simp at h;subst h;exact ⟨v,rfl,x⟩
 | _::l,_,r,i+1,a,h=>by obtain ⟨v,m,rfl,_,y⟩:=r;simp at h;simpa using RL.get y i a h
theorem RL.of_get: ∀ {l:List AV} {m:List Value},m.length=l.length→(∀(i:Nat) (a:AV),l[i]? =some a→ ∃v,m[i]? =some v∧R ρ j a v)→RL ρ j l m
 | [], m,h,_=>by
  have e:m= []:=by simpa using h
  exact e
 | a::l,[],h,_=>by simp at h
 | a::l,v::m,h,hg=>by
  refine ⟨v,m,rfl,?_,RL.of_get (by simpa using h) fun i b hb=>by simpa using hg (i+1) b (by simpa using hb)⟩;obtain ⟨v',h1,h2⟩:=hg 0 a rfl;simp at h1;subst h1;exact h2
theorem RL.append: ∀ {l l':List AV} {m m':List Value},RL ρ j l m→RL ρ j l' m'→RL ρ j (l++l') (m++m')
 | [], _,_,_,r,r'=>by rw [show _= [] from r];exact r'
 | _::l,_,_,_,r,r'=>by obtain ⟨v,m,rfl,x,y⟩:=r;exact ⟨v,_,rfl,x,RL.append y r'⟩
theorem RL.cons {a:AV} {v:Value} {l:List AV} {m:List Value} (h:R ρ j a v) (h':RL ρ j l m):RL ρ j (a::l) (v::m):=⟨v,m,rfl,h,h'⟩
theorem RL.nil:RL ρ j [] []:=rfl
theorem RL.one {a:AV} {v:Value} (h:R ρ j a v):RL ρ j [a] [v]:=⟨v,[],rfl,h,rfl⟩
theorem RL.two {a b:AV} {v u:Value} (h:R ρ j a v) (h':R ρ j b u):RL ρ j [a,b] [v,u]:= .cons h (.one h')
end
theorem zff (l:List UInt8):(l.map (·.toNat)).map UInt8.ofNat=l:=by
 rw [List.map_map]
 conv=>rhs;rw [←List.map_id l]
 apply List.map_congr_left;intro a _;simp
theorem zn7 {ρ:Val} {j:J} {v:Value} {a:AV} (h:znn v=some a):R ρ j a v:=by
  unfold znn at h;split at h<;>first|(cases h;done)|skip
  all_goals (cases h)
  all_goals first
    | (simp [R,SB.den,SE.den];done)
    | skip
  rename_i s;refine ⟨by simp;intro b _;exact b.toNat_lt,?_⟩;rw [zff]
theorem zfN {ρ:Val} {j:J}: ∀ {vs:List Value} {l:List AV},zfq vs=some l→RL ρ j l vs
 | [], l,h=>by unfold zfq at h;cases h;rfl
 | v::vs,l,h=>by
  unfold zfq at h;split at h
  ·cases h
  ·rename_i a ha;split at h
   ·cases h
   ·rename_i m hm;cases h;exact ⟨v,vs,rfl,zn7 ha,zfN hm⟩
theorem zle {ρ:Val} {j:J} {v:Value} {a:AV} (h:ofValue v=some a):R ρ j a v:=by
 unfold ofValue at h;split at h
 ·split at h
  ·rename_i hl;cases h;exact ⟨_,by simp,zfN hl⟩
  ·cases h
 ·split at h
  ·rename_i hl;cases h;exact ⟨_,by simp,zfN hl⟩
  ·cases h
 ·exact zn7 h
theorem zcv {ρ:Val} {j:J}:R ρ j zbq undef:=⟨[],rfl,rfl⟩
theorem zcF {ρ:Val} {j:J} {a:AV} {v:Value} (h:R ρ j a v):RL ρ j a.cells v.cells.toList:=by
  cases a with
  | agg l=>obtain ⟨m,rfl,r⟩:=h;simpa [AV.cells,Value.cells] using r
  | junk=>exact h.elim
  | _=>
    have hv:v.cells= #[v]:=by
      simp only [R] at h
      first
        | (subst h;rfl)
        | (obtain ⟨_,_,rfl⟩:=h;rfl)
        | (obtain ⟨_,_,_,rfl⟩:=h;rfl)
        | (obtain ⟨_,rfl,_⟩:=h;rfl)
        | (obtain ⟨_,rfl⟩:=h;rfl)
        | (obtain ⟨_,_,_,_,rfl,_⟩:=h;rfl)
        | (obtain ⟨_,_,rfl,_⟩:=h;rfl)
        | (obtain ⟨_,_,_,rfl,_⟩:=h;rfl)
        | (obtain ⟨rfl,_⟩:=h;rfl)
        | (have h1:=h.2.1;revert h1;cases v<;>intro h1<;>first|rfl|cases h1)
    rw [hv];exact RL.one h
theorem zfp {ρ:Val} {j:J} {a:AV} {v:Value} (h:R ρ j a v) (hc:zqZ a=true):v.oneCell'=true:=by
  cases a<;>simp only [zqZ] at hc<;>try (cases hc;done)
  all_goals
    simp only [R] at h
    first
      | (subst h;rfl)
      | (obtain ⟨_,_,rfl⟩:=h;rfl)
      | (obtain ⟨_,_,_,rfl⟩:=h;rfl)
      | (obtain ⟨_,rfl,_⟩:=h;rfl)
      | (obtain ⟨_,rfl⟩:=h;rfl)
      | (obtain ⟨_,_,_,_,rfl,_⟩:=h;rfl)
      | (obtain ⟨_,_,rfl,_⟩:=h;rfl)
      | (obtain ⟨_,_,_,rfl,_⟩:=h;rfl)
      | exact h.2.1
theorem zi1 {ρ:Val} {j:J}: ∀ {l:List AV} {m:List Value},RL ρ j l m→zdz l=true→ ∀v∈m,v.oneCell'=true
 | [], _,r,_=>by rw [show _= [] from r];simp
 | a::l,_,r,h=>by
  obtain ⟨v,m,rfl,x,y⟩:=r;unfold zdz at h;split at h
  ·rename_i hc;intro u hu;rcases List.mem_cons.1 hu with rfl|hu
   ·exact zfp x hc
   ·exact zi1 y h u hu
  ·cases h
def Mine (j:J) (b:Nat):Prop:= ∃n L,j n=some L∧L.q=none∧L.blk=b
structure Cx where
 w:World
 K:Nat→Prop
 G:Nat→J→World→Prop
 stab: ∀k j j' w w',G k j w→Sub j j'→w.heap.size≤w'.heap.size→(∀b,b<w.heap.size→ ¬Mine j b→w'.heap[b]? =w.heap[b]?)→(∀b,Mine j' b→Mine j b∨w.heap.size≤b)→G k j' w'
def Cx.own (x:Cx) (b:Nat):Prop:=x.w.heap.size≤b∨x.K b
def Cx.plain (w:World):Cx:=⟨w,fun _=>False,fun _ _ _=>True,fun _ _ _ _ _ _ _ _ _ _=>trivial⟩
structure Fr (w0:Cx) (w:World):Prop where
 os:w.os=w0.w.os
 out:w.output=w0.w.output
 tape:w.tape=w0.w.tape
 size:w0.w.heap.size≤w.heap.size
 old: ∀i,i<w0.w.heap.size→ ¬w0.K i→w.heap[i]? =w0.w.heap[i]?
theorem Fr.below {w w':World} (h:Fr (Cx.plain w) w'):RowKit.Below w.heap.size w w':=⟨h.os,h.tape,h.out,h.size,fun i hi=>h.old i hi id⟩
theorem Fr.refl (x:Cx):Fr x x.w:=⟨rfl,rfl,rfl,Nat.le_refl _,fun _ _ _=>rfl⟩
theorem Fr.then {x:Cx} {b c:World} (h:Fr x b) (h1:c.os=b.os) (h2:c.output=b.output) (h3:c.tape=b.tape) (h4:b.heap.size≤c.heap.size) (h5: ∀i,i<b.heap.size→ ¬x.own i→c.heap[i]? =b.heap[i]?):Fr x c:=
 ⟨h1.trans h.os,h2.trans h.out,h3.trans h.tape,Nat.le_trans h.size h4,fun i hi hk=>(h5 i (Nat.lt_of_lt_of_le hi h.size) (fun ho=>ho.elim (fun h=>absurd hi (Nat.not_lt_of_le h)) hk)).trans (h.old i hi hk)⟩
def RM (ρ:Val) (j:J):List ME→List MapEntry→Prop
 | [], l=>l= []
 | e::l,m=> ∃x m',m=x::m'∧R ρ j e.key x.key∧R ρ j e.val x.val∧x.born=e.born∧RM ρ j l m'
theorem RM.mono {ρ:Val} {j j':J} (h:Sub j j'): ∀ {l:List ME} {m:List MapEntry},RM ρ j l m→RM ρ j' l m
 | [], _,r=>r
 | _::_,_,r=>let ⟨x,m,e,a,b,c,d⟩:=r;⟨x,m,e,a.mono h,b.mono h,c,RM.mono h d⟩
def RK (ρ:Val) (j:J):List ME→List MapEntry→Prop
 | [], l=>l= []
 | e::l,m=> ∃x m',m=x::m'∧R ρ j e.key x.key∧R ρ j e.val x.val∧RK ρ j l m'
theorem RK.mono {ρ:Val} {j j':J} (h:Sub j j'): ∀ {l:List ME} {m:List MapEntry},RK ρ j l m→RK ρ j' l m
 | [], _,r=>r
 | _::_,_,r=>let ⟨x,m,e,a,b,d⟩:=r;⟨x,m,e,a.mono h,b.mono h,RK.mono h d⟩
def zoQ (v:Value) (n:Int):Bool:=
 match v with
 | .int .i64 m=>m==n
 | _=>false
def zaU (arr:Array MapEntry) (n:Int):Option Value:=(arr.toList.find? fun e=>zoQ e.key n).map (·.val)
def mlog (D:Int→Option Value):List (Int×Option Value)→Int→Option Value
 | [], n=>D n
 | e::l,n=>if n=e.1 then e.2 else mlog D l n
def RO (ρ:Val) (j:J):Option AV→Option Value→Prop
 | none,o=>o=none
 | some a,o=> ∃v,o=some v∧R ρ j a v
def RX (ρ:Val) (j:J):List (AV×Option AV)→List (Int×Option Value)→Prop
 | [], l=>l= []
 | e::l,m=> ∃x o m',m=(x,o)::m'∧R ρ j e.1 (.int .i64 x)∧RO ρ j e.2 o∧RX ρ j l m'
theorem RO.mono {ρ:Val} {j j':J} (h:Sub j j'): ∀ {a:Option AV} {o:Option Value},RO ρ j a o→RO ρ j' a o
 | none,_,r=>r
 | some _,_,r=>let ⟨v,e,x⟩:=r;⟨v,e,x.mono h⟩
theorem RX.mono {ρ:Val} {j j':J} (h:Sub j j'): ∀ {l:List (AV×Option AV)} {m:List (Int×Option Value)},RX ρ j l m→RX ρ j' l m
 | [], _,r=>r
 | _::_,_,r=>let ⟨x,o,m,e,a,b,c⟩:=r;⟨x,o,m,e,a.mono h,b.mono h,RX.mono h c⟩
structure zb6 (arr:Array MapEntry):Prop where
 keys: ∀e∈arr.toList,∃n,e.key= .int .i64 n
 once:arr.toList.Pairwise fun a b=>a.key≠b.key
def Born (arr:Array MapEntry) (clock:Nat):Prop:=(∀e∈arr.toList,e.born<clock)∧(arr.toList.map (·.born)).Nodup
def PendR (ρ:Val) (j:J) (arr:Array MapEntry) (e:AV×Option AV):Prop:=
 match e.1 with
 | .tup [s,k]=> ∃(x:Int) (b p:Nat) (ent:MapEntry),R ρ j s (.int .i64 b)∧R ρ j k (.int .i64 x)∧arr.toList.findIdx? (fun e=>(e.born:Int)==(b:Int))=some p∧arr.toList[p]? =some ent∧ent.key= .int .i64 x
 | _=>True
theorem PendR.mono {ρ:Val} {j j':J} (h:Sub j j') {arr:Array MapEntry} {e:AV×Option AV} (r:PendR ρ j arr e):PendR ρ j' arr e:=by
 unfold PendR at r ⊢;split at r
 ·obtain ⟨x,b,p,ent,h1,h2,h3⟩:=r;exact ⟨x,b,p,ent,h1.mono h,h2.mono h,h3⟩
 ·trivial
theorem zfm {ρ:Val} {j:J}: ∀ {l:List (AV×Option AV)} {m:List (Int×Option Value)},RX ρ j l m→zcJ l=l∧ ∀arr,∀e∈l,PendR ρ j arr e
 | [], _,_=>⟨rfl,fun _ e h=>by cases h⟩
 | e::l,_,r=>by
  obtain ⟨x,o,m',rfl,h1,_,h3⟩:=r;obtain ⟨i1,i2⟩:=zfm h3;have ht: ∀l',e.1≠ .tup l':=fun l' he=>by
   rw [he] at h1;obtain ⟨_,h4,_⟩:=h1;cases h4
  have hf:zvC e.1=false:=by
   cases he:e.1<;>first|rfl|exact absurd he (ht _)
  refine ⟨by unfold zcJ;rw [hf];exact congrArg _ i1,fun arr e' he'=> ?_⟩;rcases List.mem_cons.1 he' with rfl|he'
  ·unfold PendR;split
   ·rename_i he;exact absurd he (ht _)
   ·trivial
  ·exact i2 arr e' he'
def ObjR (ρ:Val) (j:J) (w0:Cx) (w:World) (gw:T Nat) (L:Loc):Obj→Prop
  | .cells v esz g closed _ own=>L.q=none∧
    (if own=true then w0.own L.blk else¬w0.own L.blk)∧
    (alive gw g closed=true→ ∃arr e fr,w.heap[L.blk]? =some (.cells arr e fr)∧L.off+v.n≤arr.size∧(L.off+L.cap*esz≤arr.size∧(0<L.cap→v.n≤L.cap*esz))∧
      ∀ i,i<v.n→ ∃x,arr[L.off+i]? =some x∧R ρ j (v.get i) x)
  | .map es clock=>L.q=none∧w0.own L.blk∧L.off=0∧ ∃arr,w.heap[L.blk]? =some (.map arr clock)∧RM ρ j es arr.toList
  | .iter m since seen stepped=>L.q=none∧w0.own L.blk∧L.off=0∧ ∃m' sa,w.heap[L.blk]? =some (.mapIter m' since sa stepped)∧sa.toList=seen∧
      (match m with|none=>m'=none|some n=> ∃Lm,j n=some Lm∧m'=some Lm.blk)
  | .mapu es=>L.q=none∧w0.own L.blk∧L.off=0∧ ∃arr clock es',w.heap[L.blk]? =some (.map arr clock)∧es'.Perm es∧RK ρ j es' arr.toList
  | .mapx kn log=>L.q=none∧w0.own L.blk∧L.off=0∧ ∃arr clock arr0 clock0 m0 m1,w.heap[L.blk]? =some (.map arr clock)∧w0.w.heap[L.blk]? =some (.map arr0 clock0)∧(zb6 arr∧Born arr clock∧ ∀e∈kn,PendR ρ j arr e)∧
      RX ρ j (zcJ kn) m0∧RX ρ j log m1∧(∀x o,(x,o)∈m0→zaU arr x=o)∧ ∀n,zaU arr n=mlog (zaU arr0) m1 n
  | .opq=>L.q≠none
  | .gs _=>False
def Sep (H:Heap) (n m:Nat) (Ln Lm:Loc):Prop:=
 ∃ vn en gn cn sn on vm em gm cm sm om,H.m.get n=some (.cells vn en gn cn sn on)∧H.m.get m=some (.cells vm em gm cm sm om)∧on=om∧
  (on=true→gn=gm∧(alive H.gw gn cn=true→alive H.gw gm cm=true→cn=none→sn=true∧cm≠none∧Lm.off+vm.n≤Ln.off+vn.n))
structure Inv (ρ:Val) (w0:Cx) (j:J) (H:Heap) (w:World):Prop where
 fr:Fr w0 w
 dom: ∀n L,j n=some L→n<H.nx
 blk: ∀n L,j n=some L→L.q=none→L.blk<w.heap.size
 used: ∀n o,H.m.get n=some o→n<H.nx
 obj: ∀n L,j n=some L→ ∃o,H.m.get n=some o∧ObjR ρ j w0 w H.gw L o
 sep: ∀n m Ln Lm,n≠m→j n=some Ln→j m=some Lm→Ln.q=none→Lm.q=none→Ln.blk=Lm.blk→Sep H n m Ln Lm
 tim: ∀n v e g t sh ow,H.m.get n=some (.cells v e g (some t) sh ow)→t≤H.nx
 gwt: ∀g x,H.gw.get g=some x→x≤H.nx
 grp: ∀n L v e g c sh,j n=some L→H.m.get n=some (.cells v e g c sh true)→ ∃Lg,j g=some Lg
 fz: ∀n L,j n=some L→L.q=none→w0.own L.blk→ ∀c e fr,w.heap[L.blk]? =some (.cells c e fr)→fr=(0,0)
 off0: ∀n L v e c sh,j n=some L→H.m.get n=some (.cells v e n c sh true)→L.off=0
 n0:j 0=none
 nx0:0<H.nx
 z0: ∀o,H.m.get 0=some o→ ∃k,o= .gs k
 gho:w0.G H.gs j w
theorem ObjR.plain {ρ:Val} {j:J} {w0:Cx} {w:World} {gw:T Nat} {L:Loc} {o:Obj} (h:ObjR ρ j w0 w gw L o) (ho:o≠ .opq):L.q=none:=by
 cases o with
 | cells=>exact h.1
 | map=>exact h.1
 | iter=>exact h.1
 | mapu=>exact h.1
 | mapx=>exact h.1
 | opq=>exact absurd rfl ho
 | gs=>exact h.elim
structure St (j:J) (H:Heap) (j':J) (H':Heap):Prop where
 sub:Sub j j'
 fresh: ∀n L,j' n=some L→j n=none→H.nx≤n
 keep: ∀n,0<n→j n=none→n<H.nx→H'.m.get n=H.m.get n∧H'.gw.get n=H.gw.get n
 nx:H.nx≤H'.nx
theorem St.refl (j:J) (H:Heap):St j H j H:=⟨Sub.refl j,(fun n L h h'=>by rw [h] at h';cases h'),fun _ _ _ _=>⟨rfl,rfl⟩,Nat.le_refl _⟩
theorem St.trans {j j' j'':J} {H H' H'':Heap} (h:St j H j' H') (h':St j' H' j'' H''):St j H j'' H'':=by
 refine ⟨h.sub.trans h'.sub,fun n L e e0=> ?_,fun n hp e hn=> ?_,Nat.le_trans h.nx h'.nx⟩
 ·cases e1:j' n with
  | none=>exact Nat.le_trans h.nx (h'.fresh n L e e1)
  | some L'=>exact h.fresh n L' e1 e0
 ·have e1:j' n=none:=by
   cases e1:j' n with
   | none=>rfl
   | some L'=>have:=h.fresh n L' e1 e;omega
  have a:=h.keep n hp e hn;have b:=h'.keep n hp e1 (Nat.lt_of_lt_of_le hn h.nx);exact ⟨b.1.trans a.1,b.2.trans a.2⟩
theorem Heap.alloc_eq (H:Heap) (o:Obj):H.alloc o=⟨H.m.set H.nx o,H.nx+1,H.gw⟩:=by
 obtain ⟨m,nx,gw⟩:=H;show (match m.set nx o with| .leaf=>(⟨.leaf,nx+1,gw⟩:Heap)| .node a b c=>zdA (nx+1) fun x=>⟨.node a b c,x,gw⟩)=_;cases m.set nx o<;>simp [zbK]
theorem Heap.upd_eq (H:Heap) (n:Nat) (o:Obj):H.upd n o=⟨H.m.set n o,H.nx,H.gw⟩:=by
 obtain ⟨m,nx,gw⟩:=H;show (match m.set n o with| .leaf=>(⟨.leaf,nx,gw⟩:Heap)| .node a b c=>⟨.node a b c,nx,gw⟩)=_;cases m.set n o<;>rfl
theorem Heap.wrote_eq (H:Heap) (g:Nat):H.wrote g=⟨H.m,H.nx,H.gw.set g H.nx⟩:=rfl
end Go.Dw
namespace Go.Dw
section
variable {ρ:Val} {w0:Cx} {j:J} {H:Heap} {w:World}
def jset (j:J) (n:Nat) (L:Loc):J:=fun k=>if k=n then some L else j k
theorem za4 (j:J) (n:Nat) (L:Loc):jset j n L n=some L:=by simp [jset]
theorem zbJ (j:J) {n k:Nat} (L:Loc) (h:k≠n):jset j n L k=j k:=by simp [jset,h]
theorem zcd {j:J} {n:Nat} {L:Loc} (h:j n=none):Sub j (jset j n L):=fun k L' e=>by
 by_cases hk:k=n
 ·subst hk;rw [h] at e;cases e
 ·rw [zbJ j L hk];exact e
theorem zq7 (H:Heap) (o:Obj) {n:Nat} (hn:n≠0) {nx:Nat} {gw:T Nat}:Heap.gs ⟨H.m.set n o,nx,gw⟩=H.gs:=by
 unfold Heap.gs;rw [show (H.m.set n o).get 0=H.m.get 0 from T.get_set_ne _ _ (Ne.symm hn)]
theorem Inv.ne0 (h:Inv ρ w0 j H w) {n:Nat} {L:Loc} (hj:j n=some L):n≠0:=fun e=>by
 subst e;rw [h.n0] at hj;cases hj
theorem Inv.z0set (h:Inv ρ w0 j H w) {n:Nat} (hn:n≠0) (o:Obj): ∀o',(H.m.set n o).get 0=some o'→ ∃k,o'= .gs k:=fun o' e=>by
 rw [show (H.m.set n o).get 0=H.m.get 0 from T.get_set_ne _ _ (Ne.symm hn)] at e;exact h.z0 o' e
theorem Inv.q (h:Inv ρ w0 j H w) {n:Nat} {L:Loc} {o:Obj} (hj:j n=some L) (hm:H.m.get n=some o) (ho:o≠ .opq):L.q=none:=by
 obtain ⟨o',h1,h2⟩:=h.obj n L hj;rw [hm] at h1;cases h1;exact h2.plain ho
theorem Inv.qrow (h:Inv ρ w0 j H w) {n:Nat} {L:Loc} {v:Vec} {e g:Nat} {c:Option Nat} {s ow:Bool} (hj:j n=some L) (hm:H.m.get n=some (.cells v e g c s ow)):L.q=none:=h.q hj hm (by intro e;cases e)
theorem Inv.gho' (h:Inv ρ w0 j H w) {j':J} {w':World} (hs:Sub j j') (h1:w.heap.size≤w'.heap.size) (h2: ∀b,b<w.heap.size→ ¬Mine j b→w'.heap[b]? =w.heap[b]?) (h3: ∀b,Mine j' b→Mine j b∨w.heap.size≤b):w0.G H.gs j' w':=w0.stab _ _ _ _ _ h.gho hs h1 h2 h3
theorem Inv.extend (h:Inv ρ w0 j H w) (o:Obj) (ho: ∀v e g t sh ow,o= .cells v e g (some t) sh ow→t≤H.nx+1):Inv ρ w0 j (H.alloc o) w:=by
 rw [Heap.alloc_eq];have old: ∀n L,j n=some L→(H.m.set H.nx o).get n=H.m.get n:=fun n L e=>T.get_set_ne _ _ (by have:=h.dom n L e;omega);refine ⟨h.fr,fun n L e=>Nat.lt_succ_of_lt (h.dom n L e),h.blk,fun n o' e=> ?_,fun n L e=> ?_,fun n m Ln Lm hne e1 e2 q1 q2 hb=> ?_,fun n v e g t sh ow he=> ?_,fun g x e=>Nat.le_succ_of_le (h.gwt g x e),fun n L v e g c sh e1 e2=> ?_,h.fz,fun n L v e c sh e1 e2=>h.off0 n L v e c sh e1 (by rw [←old n L e1];exact e2),h.n0,Nat.succ_pos _,h.z0set (by have:=h.nx0;omega) o,?_⟩
 ·show n<H.nx+1;rw [show (H.m.set H.nx o).get n=if n=H.nx then some o else H.m.get n from T.get_set _ _ _ _] at e;split at e
  ·omega
  ·have:=h.used n o' e;omega
 ·obtain ⟨o',h1,h2⟩:=h.obj n L e;exact ⟨o',by rw [old n L e];exact h1,h2⟩
 ·obtain ⟨vn,en,gn,cn,sn,on,vm,em,gm,cm,sm,om,h1,h2,h3⟩:=h.sep n m Ln Lm hne e1 e2 q1 q2 hb;exact ⟨vn,en,gn,cn,sn,on,vm,em,gm,cm,sm,om,by rw [old n Ln e1];exact h1,by rw [old m Lm e2];exact h2,h3⟩
 ·show t≤H.nx+1;rw [show (H.m.set H.nx o).get n=if n=H.nx then some o else H.m.get n from T.get_set _ _ _ _] at he;split at he
  ·exact ho _ _ _ _ _ _ (Option.some.inj he)
  ·have:=h.tim n v e g t sh ow he;omega
 ·rw [old n L e1] at e2;exact h.grp n L v e g c sh e1 e2
 ·rw [zq7 H _ (by have:=h.nx0;omega)];exact h.gho
theorem St.extend (h:Inv ρ w0 j H w) (o:Obj):St j H j (H.alloc o):=by
 rw [Heap.alloc_eq];refine ⟨Sub.refl j,(fun n L e e'=>by rw [e] at e';cases e'),fun n _ _ hn=>⟨?_,rfl⟩,Nat.le_succ _⟩;show (H.m.set H.nx o).get n=_;exact T.get_set_ne _ _ (by omega)
def NewR (ρ:Val) (j:J) (o:Obj) (ob:Go.Obj) (c:Nat):Prop:=
 match o with
 | .cells v esz _ closed _ own=>own=true∧closed=none∧ ∃arr e,ob= .cells arr e (0,0)∧v.n≤arr.size∧(c*esz≤arr.size∧(0<c→v.n≤c*esz))∧ ∀i,i<v.n→ ∃x,arr[i]? =some x∧R ρ j (v.get i) x
 | .map es clock=>c=0∧ ∃arr,ob= .map arr clock∧RM ρ j es arr.toList
 | .iter m since seen stepped=>c=0∧ ∃m' sa,ob= .mapIter m' since sa stepped∧sa.toList=seen∧(match m with|none=>m'=none|some n=> ∃Lm,j n=some Lm∧m'=some Lm.blk)
 | .mapu es=>c=0∧ ∃arr clock es',ob= .map arr clock∧es'.Perm es∧RK ρ j es' arr.toList
 | .mapx _ _=>False
 | .opq=>False
 | .gs _=>False
theorem ObjR.grow {o:Obj} {L:Loc} {gw:T Nat} {j':J} {w':World} (hs:Sub j j') (hw:L.q=none→w'.heap[L.blk]? =w.heap[L.blk]?) (h:ObjR ρ j w0 w gw L o):ObjR ρ j' w0 w' gw L o:=by
 cases o with
 | cells v esz g closed sh own=>
  obtain ⟨h0,h1,h2⟩:=h;have hw:=hw h0;refine ⟨h0,h1,fun ha=> ?_⟩;obtain ⟨arr,e,fr,h3,h4,h5,h6⟩:=h2 ha;exact ⟨arr,e,fr,hw▸h3,h4,h5,fun i hi=>let ⟨x,h7,h8⟩:=h6 i hi;⟨x,h7,h8.mono hs⟩⟩
 | map es clock=>
  obtain ⟨h0,h1,h2,arr,h3,h4⟩:=h;have hw:=hw h0;exact ⟨h0,h1,h2,arr,hw▸h3,h4.mono hs⟩
 | iter m since seen stepped=>
  obtain ⟨h0,h1,h2,m',sa,h3,h4,h5⟩:=h;have hw:=hw h0;refine ⟨h0,h1,h2,m',sa,hw▸h3,h4,?_⟩;cases m with
  | none=>exact h5
  | some n=>obtain ⟨Lm,e,x⟩:=h5;exact ⟨Lm,hs _ _ e,x⟩
 | mapu es=>
  obtain ⟨h0,h1,h2,arr,clock,es',h3,h4,h5⟩:=h;have hw:=hw h0;exact ⟨h0,h1,h2,arr,clock,es',hw▸h3,h4,h5.mono hs⟩
 | mapx kn log=>
  obtain ⟨h0,h1,h2,arr,clock,arr0,clock0,m0,m1,h3,h4,h5,h6,h7,h8⟩:=h;have hw:=hw h0;exact ⟨h0,h1,h2,arr,clock,arr0,clock0,m0,m1,hw▸h3,h4,⟨h5.1,h5.2.1,fun e he=>(h5.2.2 e he).mono hs⟩,h6.mono hs,h7.mono hs,h8⟩
 | opq=>exact h
 | gs k=>exact h.elim
theorem Inv.adopt (h:Inv ρ w0 j H w) {n:Nat} {o:Obj} {ob:Go.Obj} {c:Nat} (hn:H.m.get n=some o) (hj:j n=none) (hnew:NewR ρ j o ob c)
  (hg: ∀v e g cl sh,o= .cells v e g cl sh true→g=n∨ ∃Lg,j g=some Lg):
  Inv ρ w0 (jset j n ⟨w.heap.size,0,c,none⟩) H { w with heap:=w.heap.push ob }:=by
 have hsub:=zcd (L:=⟨w.heap.size,0,c,none⟩) hj;have hold: ∀i,i<w.heap.size→(w.heap.push ob)[i]? =w.heap[i]? :=fun i hi=>by
  rw [Array.getElem?_push];rw [if_neg (by omega)]
 have hne: ∀k L,j k=some L→k≠n:=fun k L e hk=>by subst hk;rw [hj] at e;cases e
 have hback: ∀k L,jset j n ⟨w.heap.size,0,c,none⟩ k=some L→(k=n∧L=⟨w.heap.size,0,c,none⟩)∨(k≠n∧j k=some L):=fun k L e=>by
  by_cases hk:k=n
  ·subst hk;rw [za4] at e;exact .inl ⟨rfl,(Option.some.inj e).symm⟩
  ·rw [zbJ _ _ hk] at e;exact .inr ⟨hk,e⟩
 have hfr:Fr w0 { w with heap:=w.heap.push ob }:=h.fr.then rfl rfl rfl (by simp) (fun i hi _=>hold i hi)
 refine ⟨hfr,fun k L e=> ?_,fun k L e q=> ?_,h.used,fun k L e=> ?_,fun k m Lk Lm hkm e1 e2 q1 q2 hb=> ?_,h.tim,h.gwt,fun k L v e g cl sh e1 e2=> ?_,fun k L hjk hq hi cs e fr he=> ?_,fun k L v e cl sh e1 e2=>(hback k L e1).elim (fun x=>x.2▸rfl) (fun x=>h.off0 k L v e cl sh x.2 e2),?_,h.nx0,h.z0,?_⟩
 ·rcases hback k L e with ⟨rfl,_⟩|⟨_,e⟩
  ·exact h.used _ _ hn
  ·exact h.dom k L e
 ·show L.blk<(w.heap.push ob).size;rcases hback k L e with ⟨_,rfl⟩|⟨_,e⟩
  ·simp
  ·have:=h.blk k L e q;simp;omega
 ·rcases hback k L e with ⟨rfl,rfl⟩|⟨_,e⟩
  ·refine ⟨o,hn,?_⟩;have hown:w0.own w.heap.size:=Or.inl h.fr.size;have hnewb:(w.heap.push ob)[w.heap.size]? =some ob:=by simp
   cases o with
   | cells v esz g cl sh own=>
    obtain ⟨ho,_,arr,e',rfl,h1,h2,h3⟩:=hnew;refine ⟨rfl,by rw [if_pos ho];exact hown,fun _=>⟨arr,e',(0,0),hnewb,by simpa using h1,⟨by simpa using h2.1,h2.2⟩,fun i hi=> ?_⟩⟩;obtain ⟨x,h4,h5⟩:=h3 i hi;exact ⟨x,by simpa using h4,h5.mono hsub⟩
   | map es clock=>
    obtain ⟨_,arr,rfl,h1⟩:=hnew;exact ⟨rfl,hown,rfl,arr,hnewb,h1.mono hsub⟩
   | iter m since seen stepped=>
    obtain ⟨_,m',sa,rfl,h1,h2⟩:=hnew;refine ⟨rfl,hown,rfl,m',sa,hnewb,h1,?_⟩;cases m with
    | none=>exact h2
    | some n=>obtain ⟨Lm,e,x⟩:=h2;exact ⟨Lm,hsub _ _ e,x⟩
   | mapu es=>
    obtain ⟨_,arr,clock,es',rfl,h1,h2⟩:=hnew;exact ⟨rfl,hown,rfl,arr,clock,es',hnewb,h1,h2.mono hsub⟩
   | mapx=>exact hnew.elim
   | opq=>exact hnew.elim
   | gs=>exact hnew.elim
  ·obtain ⟨o',h1,h2⟩:=h.obj k L e;exact ⟨o',h1,ObjR.grow hsub (fun q=>hold _ (h.blk k L e q)) h2⟩
 ·rcases hback k Lk e1 with ⟨rfl,rfl⟩|⟨_,e1⟩<;>rcases hback m Lm e2 with ⟨rfl,rfl⟩|⟨_,e2⟩
  ·exact absurd rfl hkm
  ·rename_i e2;have:=h.blk m Lm e2 q2;rw [←hb] at this;exact absurd this (Nat.lt_irrefl _)
  ·rename_i e1 _;have:=h.blk k Lk (by assumption) q1;rw [hb] at this;exact absurd this (Nat.lt_irrefl _)
  ·exact h.sep k m Lk Lm hkm (by assumption) (by assumption) q1 q2 hb
 ·rcases hback k L e1 with ⟨rfl,rfl⟩|⟨_,e1⟩
  ·rw [hn] at e2;rcases hg _ _ _ _ _ (Option.some.inj e2) with rfl|⟨Lg,e3⟩
   ·exact ⟨_,za4 _ _ _⟩
   ·exact ⟨Lg,hsub _ _ e3⟩
  ·obtain ⟨Lg,e3⟩:=h.grp k L v e g cl sh e1 e2;exact ⟨Lg,hsub _ _ e3⟩
 ·have he:(w.heap.push ob)[L.blk]? =some (.cells cs e fr):=he;rcases hback k L hjk with ⟨rfl,rfl⟩|⟨_,hjk⟩
  ·rw [show (w.heap.push ob)[w.heap.size]? =some ob by simp] at he;cases o with
   | cells v esz g cl sh own=>
    obtain ⟨_,_,arr,e',rfl,_⟩:=hnew;cases he;rfl
   | map es clock=>obtain ⟨_,arr,rfl,_⟩:=hnew;cases he
   | iter m since seen stepped=>obtain ⟨_,m',sa,rfl,_⟩:=hnew;cases he
   | mapu es=>obtain ⟨_,arr,clock,es',rfl,_⟩:=hnew;cases he
   | mapx=>exact hnew.elim
   | opq=>exact hnew.elim
   | gs=>exact hnew.elim
  ·rw [hold _ (h.blk k L hjk hq)] at he;exact h.fz k L hjk hq hi cs e fr he
 ·by_cases hk:0=n
  ·rw [←hk] at hn;obtain ⟨kk,rfl⟩:=h.z0 _ hn;exact hnew.elim
  ·rw [zbJ _ _ hk];exact h.n0
 ·refine h.gho' hsub (by simp) (fun b hb _=>hold b hb) (fun b hb=> ?_);obtain ⟨k,L,e,q,rfl⟩:=hb;rcases hback k L e with ⟨_,rfl⟩|⟨_,e⟩
  ·exact Or.inr (Nat.le_refl _)
  ·exact Or.inl ⟨k,L,e,q,rfl⟩
theorem Inv.alloc (h:Inv ρ w0 j H w) {o:Obj} {ob:Go.Obj} {c:Nat} (hnew:NewR ρ j o ob c)
  (hg: ∀v e g cl sh,o= .cells v e g cl sh true→g=H.nx∨ ∃Lg,j g=some Lg):
  Inv ρ w0 (jset j H.nx ⟨w.heap.size,0,c,none⟩) (H.alloc o) { w with heap:=w.heap.push ob }∧St j H (jset j H.nx ⟨w.heap.size,0,c,none⟩) (H.alloc o):=by
 have hj:j H.nx=none:=by
  cases e:j H.nx with
  | none=>rfl
  | some L=>exact absurd (h.dom _ _ e) (Nat.lt_irrefl _)
 have h1:=h.extend o (fun v e g t sh ow ho=>by
  subst ho;obtain ⟨_,hc,_⟩:=hnew;cases hc)
 have hn:(H.alloc o).m.get H.nx=some o:=by rw [Heap.alloc_eq];exact T.get_set_same _ _ _
 refine ⟨h1.adopt hn hj hnew hg,zcd hj,fun n L e e0=> ?_,(St.extend h o).keep,(St.extend h o).nx⟩;by_cases hk:n=H.nx
 ·omega
 ·rw [zbJ _ _ hk,e0] at e;cases e
theorem zwJ {n:Nat} {v:Vec} (h:H.row n=some v): ∃e g c sh ow,H.m.get n=some (.cells v e g c sh ow)∧alive H.gw g c=true:=by
 unfold Heap.row at h;split at h
 ·split at h
  ·rename_i hm _ ha;cases h;exact ⟨_,_,_,_,_,hm,ha⟩
  ·cases h
 ·cases h
theorem Inv.row (h:Inv ρ w0 j H w) {n:Nat} {L:Loc} {v:Vec} (hj:j n=some L) (hr:H.row n=some v):
  ∃ arr e fr,w.heap[L.blk]? =some (.cells arr e fr)∧L.off+v.n≤arr.size∧ ∀i,i<v.n→ ∃x,arr[L.off+i]? =some x∧R ρ j (v.get i) x:=by
 obtain ⟨e,g,c,sh,ow,hm,ha⟩:=zwJ hr;obtain ⟨o,h1,h2⟩:=h.obj n L hj;rw [hm] at h1;cases h1;obtain ⟨arr,e,fr,h3,h4,_,h5⟩:=h2.2.2 ha;exact ⟨arr,e,fr,h3,h4,h5⟩
theorem Inv.cell (h:Inv ρ w0 j H w) {n off:Nat} {L:Loc} {v:Vec} (hj:j n=some L) (hr:H.row n=some v) (ho:off<v.n):
  ∃ x,w.cell? ⟨L.blk,L.off+off,none⟩=some x∧R ρ j (v.get off) x:=by
 obtain ⟨arr,e,fr,h1,_,h3⟩:=h.row hj hr;obtain ⟨x,h4,h5⟩:=h3 off ho;exact ⟨x,by simp [World.cell?,h1,h4],h5⟩
theorem addr_add (b o i:Nat):(⟨b,o,none⟩:Addr).add i=⟨b,o+i,none⟩:=by unfold Addr.add;split<;>simp_all
theorem Inv.loadCells {P:Program} (h:Inv ρ w0 j H w) {n off k:Nat} {L:Loc} {v:Vec} (hj:j n=some L) (hr:H.row n=some v) (ho:off+k≤v.n):
  ∃ xs:List Value,(Go.loadCells ⟨L.blk,L.off+off,none⟩ k).run P w= .ok xs.toArray w∧RL ρ j (v.list off k) xs:=by
 have hc: ∀i,i<k→ ∃x,w.cell? ⟨L.blk,L.off+off+i,none⟩=some x∧R ρ j (v.get (off+i)) x:=fun i hi=>by
  have:=h.cell hj hr (off:=off+i) (by omega)
  rwa [←Nat.add_assoc] at this
 let f:Nat→Value:=fun i=>(w.cell? ⟨L.blk,L.off+off+i,none⟩).getD undef
 refine ⟨(List.range k).map f,run_loadCells w _ k f fun i hi=> ?_,RL.of_get (by simp [Vec.length_list]) fun i a ha=> ?_⟩
 ·obtain ⟨x,h1,_⟩:=hc i hi;rw [addr_add,h1];simp [f,h1]
 ·have hi:i<k:=by
   rcases Nat.lt_or_ge i k with h'|h'
   ·exact h'
   ·rw [List.getElem?_eq_none (by rw [Vec.length_list];exact h')] at ha;cases ha
  rw [Vec.getElem_list k v off i hi] at ha;obtain ⟨x,h1,h2⟩:=hc i hi;refine ⟨x,by simp [hi,f,h1],?_⟩;rw [←Option.some.inj ha];exact h2
theorem zrV (gw:T Nat) (g x g':Nat) (c:Option Nat) (h:alive (gw.set g x) g' c=true) (hx: ∀y,gw.get g=some y→y≤x):alive gw g' c=true:=by
 unfold alive at*;cases c with
 | none=>rfl
 | some t=>
  simp only at*;by_cases hg:g'=g
  ·subst hg;rw [T.get_set_same] at h;simp only [Nat.blt_eq] at h;cases e:gw.get g' with
   | none=>rfl
   | some y=>simp only [Nat.blt_eq];have:=hx y e;omega
  ·rw [T.get_set_ne _ _ hg] at h;exact h
theorem Inv.stored (h:Inv ρ w0 j H w) {n off:Nat} {L:Loc} {v:Vec} {esz g:Nat} {sh:Bool} {l:List AV} {vs:List Value} {gw':T Nat} (hj:j n=some L)
  (hm:H.m.get n=some (.cells v esz g none sh true)) (hl:off+l.length≤v.n) (hc:zdz l=true) (hr:RL ρ j l vs)
  (hA: ∀g' c,alive gw' g' c=true→alive H.gw g' c=true)
  (hB: ∀m Lm vm em gm cm sm om,m≠n→j m=some Lm→Lm.blk=L.blk→H.m.get m=some (.cells vm em gm cm sm om)→alive gw' gm cm=false)
  (hC: ∀g x,gw'.get g=some x→x≤H.nx) (P:Program):
  ∃ w',(storeCells ⟨L.blk,L.off+off,none⟩ vs).run P w= .ok () w'∧Inv ρ w0 j ⟨H.m.set n (.cells (v.put off l) esz g none false true),H.nx,gw'⟩ w':=by
 obtain ⟨o,h1,h2⟩:=h.obj n L hj;rw [hm] at h1;cases h1;obtain ⟨hq,hbase,hcont⟩:=h2;rw [if_pos rfl] at hbase;obtain ⟨arr,e,fr,hb,hs1,hs2,hcells⟩:=hcont rfl;have hfr:=h.fz _ _ hj hq hbase _ _ _ hb;subst hfr;have hlen:=hr.length;have hrun:=run_storeCells_at (P:=P) L.blk (L.off+off) e vs 0 arr w hb (by omega) (zi1 hr hc);refine ⟨_,hrun,?_⟩;generalize harr':(arr.toList.take (L.off+off+0)++vs++arr.toList.drop (L.off+off+0+vs.length)).toArray=arr';have hsz:arr'.size=arr.size:=by rw [←harr'];simp;omega
 have hget: ∀k,arr'[k]? =if L.off+off≤k∧k<L.off+off+vs.length then vs[k-(L.off+off)]? else arr[k]? :=fun k=>by
  rw [←harr'];simp only [Nat.add_zero,List.getElem?_toArray];by_cases hk:k<L.off+off
  ·rw [if_neg (by omega),List.append_assoc,List.getElem?_append_left (by simp;omega),List.getElem?_take_of_lt hk];simp
  ·by_cases hk2:k<L.off+off+vs.length
   ·rw [if_pos (by omega),List.append_assoc,List.getElem?_append_right (by simp;omega),List.getElem?_append_left (by simp;omega)];congr 1;simp;omega
   ·rw [if_neg (by omega),List.getElem?_append_right (by simp;omega),List.getElem?_drop];simp only [List.length_append,List.length_take,Array.length_toList,Array.getElem?_toList];congr 1;omega
 have hset:=setRow_heap w L.blk arr arr' e (0,0) hb;have hoth: ∀k,k≠L.blk→(w.setRow L.blk arr').heap[k]? =w.heap[k]? :=fun k hk=>setRow_other w L.blk k arr' hk;have hold: ∀k,k≠n→(H.m.set n (.cells (v.put off l) esz g none false true)).get k=H.m.get k:=fun k hk=>T.get_set_ne _ _ hk;refine ⟨h.fr.then (by simp) (by simp) rfl (by simp) (fun i _ ho=>hoth i (fun e=>ho (e▸hbase))),h.dom,fun k Lk e q=>by simpa using h.blk k Lk e q,fun k o' e=> ?_,fun k Lk e=> ?_,fun k m Lk Lm hkm e1 e2 q1 q2 hbk=> ?_,fun k v' e' g' t sh' ow he=> ?_,hC,fun k Lk v' e' g' c sh' e1 e2=> ?_,fun k Lk hjk hqk hi c e' fr he=> ?_,fun k Lk v' e' c sh' e1 e2=> ?_,h.n0,h.nx0,h.z0set (h.ne0 hj) _,?_⟩
 ·by_cases hk:k=n
  ·subst hk;exact h.dom _ _ hj
  ·rw [hold k hk] at e;exact h.used k o' e
 ·by_cases hk:k=n
  ·subst hk;rw [hj] at e;cases e;refine ⟨_,T.get_set_same _ _ _,hq,by rw [if_pos rfl];exact hbase,fun _=>⟨arr',e,(0,0),hset,by rw [Vec.n_put,hsz];exact hs1,⟨by rw [hsz];exact hs2.1,by rw [Vec.n_put];exact hs2.2⟩,fun i hi=> ?_⟩⟩;rw [Vec.n_put] at hi;rw [hget,Vec.get_put];by_cases hin:off≤i∧i<off+l.length
   ·rw [if_pos (by omega),dif_pos hin];obtain ⟨x,h3,h4⟩:=hr.get (i-off) _ (List.getElem?_eq_getElem (by omega));exact ⟨x,by rw [←h3];congr 1;omega,h4⟩
   ·rw [if_neg (by omega),dif_neg hin];exact hcells i hi
  ·obtain ⟨o',h3,h4⟩:=h.obj k Lk e;refine ⟨o',by rw [hold k hk];exact h3,?_⟩;by_cases hqk:Lk.q=none
   case neg=>
    cases o' with
    | opq=>exact h4
    | gs=>exact h4.elim
    | _=>exact absurd h4.1 hqk
   by_cases hbk:Lk.blk=L.blk
   ·obtain ⟨vn,en,gn,cn,sn,on,vm,em,gm,cm,sm,om,h5,h6,_⟩:=h.sep k n Lk L hk e hj hqk hq hbk;rw [h3] at h5;cases h5;refine ⟨h4.1,h4.2.1,fun ha=> ?_⟩;rw [hB k Lk vn en gn cn sn on hk e hbk h3] at ha;cases ha
   ·have hw:=hoth _ hbk;cases o' with
    | cells v' esz' g' c' sh' ow'=>exact ⟨h4.1,h4.2.1,fun ha=>let ⟨a1,a2,a3,a4,a5⟩:=h4.2.2 (hA _ _ ha);⟨a1,a2,a3,by rw [hw];exact a4,a5⟩⟩
    | map es clock=>obtain ⟨a0,a1,a2,a3,a4,a5⟩:=h4;exact ⟨a0,a1,a2,a3,by rw [hw];exact a4,a5⟩
    | iter m since seen stepped=>obtain ⟨a0,a1,a2,a3,a4,a5,a6⟩:=h4;exact ⟨a0,a1,a2,a3,a4,by rw [hw];exact a5,a6⟩
    | mapu es=>obtain ⟨a0,a1,a2,a3,a4,a5,a6⟩:=h4;exact ⟨a0,a1,a2,a3,a4,a5,by rw [hw];exact a6⟩
    | mapx kn log=>obtain ⟨a0,a1,a2,a3,a4,a5,a6,a7,a8,a9,a10⟩:=h4;exact ⟨a0,a1,a2,a3,a4,a5,a6,a7,a8,by rw [hw];exact a9,a10⟩
    | opq=>exact h4
    | gs=>exact h4.elim
 ·obtain ⟨vn,en,gn,cn,sn,on,vm,em,gm,cm,sm,om,h3,h4,h5,h6⟩:=h.sep k m Lk Lm hkm e1 e2 q1 q2 hbk;by_cases hk:k=n
  ·subst hk;have hmk:m≠k:=fun h'=>hkm h'.symm;rw [hj] at e1;cases e1;rw [hm] at h3;cases h3;refine ⟨_,_,_,_,_,_,vm,em,gm,cm,sm,om,T.get_set_same _ _ _,by rw [hold m hmk];exact h4,h5,fun ho=>⟨(h6 ho).1,fun _ ha=> ?_⟩⟩;rw [hB m Lm vm em gm cm sm om hmk e2 hbk.symm h4] at ha;cases ha
  ·by_cases hmn:m=n
   ·subst hmn;rw [hj] at e2;cases e2;rw [hm] at h4;cases h4;refine ⟨vn,en,gn,cn,sn,on,_,_,_,_,_,_,by rw [hold k hk];exact h3,T.get_set_same _ _ _,h5,fun ho=>⟨(h6 ho).1,fun ha=> ?_⟩⟩;rw [hB k Lk vn en gn cn sn on hk e1 hbk h3] at ha;cases ha
   ·exact ⟨vn,en,gn,cn,sn,on,vm,em,gm,cm,sm,om,by rw [hold k hk];exact h3,by rw [hold m hmn];exact h4,h5,fun ho=>⟨(h6 ho).1,fun a1 a2=>(h6 ho).2 (hA _ _ a1) (hA _ _ a2)⟩⟩
 ·by_cases hk:k=n
  ·subst hk;rw [T.get_set_same] at he;cases he
  ·rw [hold k hk] at he;exact h.tim k v' e' g' t sh' ow he
 ·by_cases hk:k=n
  ·subst hk;rw [T.get_set_same] at e2;cases e2;exact h.grp k Lk _ _ _ _ _ e1 hm
  ·rw [hold k hk] at e2;exact h.grp k Lk v' e' g' c sh' e1 e2
 ·by_cases hi2:Lk.blk=L.blk
  ·rw [hi2] at he;rw [hset] at he;cases he;rfl
  ·rw [hoth _ hi2] at he;exact h.fz k Lk hjk hqk hi c e' fr he
 ·by_cases hk:k=n
  ·subst hk;rw [T.get_set_same] at e2;cases e2;exact h.off0 _ Lk _ _ _ _ e1 hm
  ·rw [hold k hk] at e2;exact h.off0 k Lk v' e' c sh' e1 e2
 ·rw [zq7 H _ (h.ne0 hj)];exact h.gho' (Sub.refl j) (by simp) (fun b _ hb=>hoth b (fun e=>hb ⟨n,L,hj,hq,e.symm⟩)) (fun b hb=>Or.inl hb)
theorem Inv.store (h:Inv ρ w0 j H w) {n off:Nat} {L:Loc} {l:List AV} {vs:List Value} {H':Heap} (hst:H.store n off l=some H') (hj:j n=some L) (hr:RL ρ j l vs) (P:Program):
    ∃ w',(storeCells ⟨L.blk,L.off+off,none⟩ vs).run P w= .ok () w'∧Inv ρ w0 j H' w'∧St j H j H':=by
  unfold Heap.store at hst;split at hst
  case h_2=>cases hst
  rename_i v esz g sh hm;split at hst
  case h_2=>cases hst
  rename_i hle hc;have hle:off+l.length≤v.n:=Nat.le_of_ble_eq_true hle;have hgs:=h.grp n L v esz g none sh hj hm;have hne: ∀k,j k=none→k≠n:=fun k e hk=>by subst hk;rw [hj] at e;cases e
  split at hst
  · cases hst;obtain ⟨w',h1,h2⟩:=h.stored hj hm hle hc hr (gw':=H.gw) (fun _ _ x=>x) (fun m Lm vm em gm cm sm om hmn e hb hmm=>by
      obtain ⟨vn,en,gn,cn,sn,on,vm',em',gm',cm',sm',om',h3,h4,h5,h6⟩:=h.sep n m L Lm (fun h'=>hmn h'.symm) hj e (h.qrow hj hm) (h.qrow e hmm) hb.symm;rw [hm] at h3;cases h3;rw [hmm] at h4;cases h4;cases ha:alive H.gw gm cm with
      | false=>rfl
      | true=>exact absurd ((h6 rfl).2 rfl ha rfl).1 (by simp)) h.gwt P
    refine ⟨w',h1,by rw [Heap.upd_eq];exact h2,?_⟩;rw [Heap.upd_eq];exact ⟨Sub.refl j,(fun k L e e'=>by rw [e] at e';cases e'),fun k _ e _=>⟨T.get_set_ne _ _ (hne k e),rfl⟩,Nat.le_refl _⟩
  · cases hst;obtain ⟨w',h1,h2⟩:=h.stored hj hm hle hc hr (gw':=H.gw.set g H.nx) (fun g' c x=>zrV _ _ _ _ _ x (fun y hy=>h.gwt g y hy)) (fun m Lm vm em gm cm sm om hmn e hb hmm=>by
      obtain ⟨vn,en,gn,cn,sn,on,vm',em',gm',cm',sm',om',h3,h4,h5,h6⟩:=h.sep n m L Lm (fun h'=>hmn h'.symm) hj e (h.qrow hj hm) (h.qrow e hmm) hb.symm;rw [hm] at h3;cases h3;rw [hmm] at h4;cases h4;obtain ⟨rfl,h7⟩:=h6 rfl;cases cm with
      | none=>exact absurd rfl (h7 rfl rfl rfl).2.1
      | some t=>
        have:=h.tim m vm em g t sm _ hmm;simp only [alive,T.get_set_same];cases hx:Nat.blt H.nx t with
        | false=>rfl
        | true=>rw [Nat.blt_eq] at hx;omega)
      (fun g' x e=>by
        by_cases hg:g'=g
        · subst hg;rw [T.get_set_same] at e;cases e;exact Nat.le_refl _
        · rw [T.get_set_ne _ _ hg] at e;exact h.gwt g' x e) P
    refine ⟨w',h1,by rw [Heap.wrote_eq,Heap.upd_eq];exact h2,?_⟩;rw [Heap.wrote_eq,Heap.upd_eq];obtain ⟨Lg,hLg⟩:=hgs;exact ⟨Sub.refl j,(fun k L e e'=>by rw [e] at e';cases e'),fun k _ e _=>⟨T.get_set_ne _ _ (hne k e),T.get_set_ne _ _ (fun hk=>by subst hk;rw [hLg] at e;cases e)⟩,Nat.le_refl _⟩
def znp:Obj→Bool
 | .cells .. =>false
 | .opq=>false
 | .gs _=>false
 | _=>true
def ztY:Go.Obj→Bool
 | .cells .. =>false
 | _=>true
theorem Inv.setObj (h:Inv ρ w0 j H w) {n:Nat} {L:Loc} {o o':Obj} {ob:Go.Obj} (hj:j n=some L) (hm:H.m.get n=some o) (ho:znp o=true) (ho':znp o'=true)
  (hob:ztY ob=true) (hR: ∀w':World,w'.heap[L.blk]? =some ob→ObjR ρ j w0 w' H.gw L o'):
  Inv ρ w0 j (H.upd n o') { w with heap:=w.heap.setIfInBounds L.blk ob }∧St j H j (H.upd n o'):=by
 rw [Heap.upd_eq];obtain ⟨o1,h1,h2⟩:=h.obj n L hj;rw [hm] at h1;cases h1;have hq:L.q=none:=h.q hj hm (by intro e;subst e;cases ho);have hbase:w0.own L.blk:=by
  cases o with
  | cells=>cases ho
  | map=>exact h2.2.1
  | iter=>exact h2.2.1
  | mapu=>exact h2.2.1
  | mapx=>exact h2.2.1
  | opq=>cases ho
  | gs=>cases ho
 have hlt:=h.blk n L hj hq;have hself:(w.heap.setIfInBounds L.blk ob)[L.blk]? =some ob:=by simp [hlt]
 have hoth: ∀k,k≠L.blk→(w.heap.setIfInBounds L.blk ob)[k]? =w.heap[k]? :=fun k hk=>by rw [Array.getElem?_setIfInBounds_ne (Ne.symm hk)]
 have hold: ∀k,k≠n→(H.m.set n o').get k=H.m.get k:=fun k hk=>T.get_set_ne _ _ hk;have huniq: ∀m Lm,m≠n→j m=some Lm→Lm.q=none→Lm.blk≠L.blk:=fun m Lm hmn e hqm hb=>by
  obtain ⟨vn,en,gn,cn,sn,on,vm,em,gm,cm,sm,om,h3,h4,_⟩:=h.sep m n Lm L hmn e hj hqm hq hb;rw [hm] at h4;cases h4;cases ho
 have hne: ∀k,j k=none→k≠n:=fun k e hk=>by subst hk;rw [hj] at e;cases e
 refine ⟨⟨h.fr.then rfl rfl rfl (by simp) (fun i _ hi=>hoth i (fun e=>hi (e▸hbase))),h.dom,fun k Lk e q=> ?_,fun k o' e=> ?_,fun k Lk e=> ?_,fun k m Lk Lm hkm e1 e2 q1 q2 hbk=> ?_,fun k v' e' g' t sh' ow he=> ?_,h.gwt,fun k Lk v' e' g' c sh' e1 e2=> ?_,fun k Lk hjk hqk hi c e' fr he=> ?_,fun k Lk v' e' c sh' e1 e2=> ?_,h.n0,h.nx0,h.z0set (h.ne0 hj) _,?_⟩,
  Sub.refl j,(fun k L e e'=>by rw [e] at e';cases e'),fun k _ e _=>⟨hold k (hne k e),rfl⟩,Nat.le_refl _⟩
 ·show Lk.blk<(w.heap.setIfInBounds L.blk ob).size;simpa using h.blk k Lk e q
 ·by_cases hk:k=n
  ·subst hk;exact h.dom _ _ hj
  ·rw [hold k hk] at e;exact h.used k _ e
 ·by_cases hk:k=n
  ·subst hk;rw [hj] at e;cases e;exact ⟨o',T.get_set_same _ _ _,hR _ hself⟩
  ·obtain ⟨o2,h3,h4⟩:=h.obj k Lk e;exact ⟨o2,by rw [hold k hk];exact h3,ObjR.grow (Sub.refl j) (fun q=>hoth _ (huniq k Lk hk e q)) h4⟩
 ·by_cases hk:k=n
  ·subst hk;rw [hj] at e1;cases e1;exact absurd hbk.symm (huniq m Lm (fun h'=>hkm h'.symm) e2 q2)
  ·by_cases hmn:m=n
   ·subst hmn;rw [hj] at e2;cases e2;exact absurd hbk (huniq k Lk hk e1 q1)
   ·obtain ⟨vn,en,gn,cn,sn,on,vm,em,gm,cm,sm,om,h3,h4,h5⟩:=h.sep k m Lk Lm hkm e1 e2 q1 q2 hbk;exact ⟨vn,en,gn,cn,sn,on,vm,em,gm,cm,sm,om,by rw [hold k hk];exact h3,by rw [hold m hmn];exact h4,h5⟩
 ·by_cases hk:k=n
  ·subst hk;rw [T.get_set_same] at he;cases he;cases ho'
  ·rw [hold k hk] at he;exact h.tim k v' e' g' t sh' ow he
 ·by_cases hk:k=n
  ·subst hk;rw [T.get_set_same] at e2;cases e2;cases ho'
  ·rw [hold k hk] at e2;exact h.grp k Lk v' e' g' c sh' e1 e2
 ·have he:(w.heap.setIfInBounds L.blk ob)[Lk.blk]? =some (.cells c e' fr):=he;by_cases hi2:Lk.blk=L.blk
  ·rw [hi2,hself] at he;cases he;cases hob
  ·rw [hoth _ hi2] at he;exact h.fz k Lk hjk hqk hi c e' fr he
 ·by_cases hk:k=n
  ·subst hk;rw [T.get_set_same] at e2;cases e2;cases ho'
  ·rw [hold k hk] at e2;exact h.off0 k Lk v' e' c sh' e1 e2
 ·rw [zq7 H _ (h.ne0 hj)];exact h.gho' (Sub.refl j) (by simp) (fun b _ hb=>hoth b (fun e=>hb ⟨n,L,hj,hq,e.symm⟩)) (fun b hb=>Or.inl hb)
theorem zi5 {n:Nat} {es:List ME} {c:Nat} (h:H.mapAt n=some (es,c)):H.m.get n=some (.map es c):=by
 unfold Heap.mapAt at h;split at h
 ·rename_i hm;cases h;exact hm
 ·cases h
theorem Inv.mapAt (h:Inv ρ w0 j H w) {n:Nat} {L:Loc} {es:List ME} {c:Nat} (hj:j n=some L) (hm:H.mapAt n=some (es,c)):
  ∃ arr,w.heap[L.blk]? =some (.map arr c)∧RM ρ j es arr.toList:=by
 obtain ⟨o,h1,h2⟩:=h.obj n L hj;rw [zi5 hm] at h1;cases h1;exact h2.2.2.2
theorem Inv.hand (h:Inv ρ w0 j H w) {n:Nat} (hn:H.m.get n=some .opq) (hj:j n=none) (v:Value):Inv ρ w0 (jset j n ⟨0,0,0,some v⟩) H w:=by
 have hsub:=zcd (L:=⟨0,0,0,some v⟩) hj;have hback: ∀k L,jset j n ⟨0,0,0,some v⟩ k=some L→(k=n∧L=⟨0,0,0,some v⟩)∨(k≠n∧j k=some L):=fun k L e=>by
  by_cases hk:k=n
  ·subst hk;rw [za4] at e;exact .inl ⟨rfl,(Option.some.inj e).symm⟩
  ·rw [zbJ _ _ hk] at e;exact .inr ⟨hk,e⟩
 have hbq: ∀k L,jset j n ⟨0,0,0,some v⟩ k=some L→L.q=none→j k=some L:=fun k L e q=>by
  rcases hback k L e with ⟨_,rfl⟩|⟨_,e⟩
  ·cases q
  ·exact e
 refine ⟨h.fr,fun k L e=> ?_,fun k L e q=>h.blk k L (hbq k L e q) q,h.used,fun k L e=> ?_,fun k m Lk Lm hkm e1 e2 q1 q2 hb=>h.sep k m Lk Lm hkm (hbq _ _ e1 q1) (hbq _ _ e2 q2) q1 q2 hb,h.tim,h.gwt,fun k L v' e g cl sh e1 e2=> ?_,
  fun k L e q=>h.fz k L (hbq _ _ e q) q,fun k L v' e cl sh e1 e2=> ?_,?_,h.nx0,h.z0,h.gho' hsub (Nat.le_refl _) (fun _ _ _=>rfl) fun b hm=> ?_⟩
 ·rcases hback k L e with ⟨rfl,_⟩|⟨_,e⟩
  ·exact h.used _ _ hn
  ·exact h.dom k L e
 ·rcases hback k L e with ⟨rfl,rfl⟩|⟨_,e⟩
  ·exact ⟨.opq,hn,by show (some v)≠none;simp⟩
  ·obtain ⟨o',h1,h2⟩:=h.obj k L e;exact ⟨o',h1,ObjR.grow hsub (fun _=>rfl) h2⟩
 ·rcases hback k L e1 with ⟨rfl,_⟩|⟨_,e1⟩
  ·rw [hn] at e2;cases e2
  ·obtain ⟨Lg,e3⟩:=h.grp k L v' e g cl sh e1 e2;exact ⟨Lg,hsub _ _ e3⟩
 ·rcases hback k L e1 with ⟨rfl,_⟩|⟨_,e1⟩
  ·rw [hn] at e2;cases e2
  ·exact h.off0 k L v' e cl sh e1 e2
 ·by_cases hk:0=n
  ·rw [←hk] at hn;obtain ⟨kk,h1⟩:=h.z0 _ hn;cases h1
  ·rw [zbJ _ _ hk];exact h.n0
 ·obtain ⟨k,L,e,q,rfl⟩:=hm;exact .inl ⟨k,L,hbq k L e q,q,rfl⟩
theorem run_getObj_map (P:Program) {r:Nat} {arr:Array MapEntry} {c:Nat} (h:w.heap[r]? =some (.map arr c)):(getObj r).run P w= .ok (.map arr c) w:=by
 simp [getObj,Sem.run,h]
theorem run_setObj_map (P:Program) {r:Nat} {o o':Go.Obj} (h:w.heap[r]? =some o) (ho:ztY o=true):(setObj r o').run P w= .ok () { w with heap:=w.heap.setIfInBounds r o' }:=by
 cases o<;>first|(cases ho;done)|simp [setObj,Sem.run,h]
theorem Inv.mapped (h:Inv ρ w0 j H w) {n:Nat} {L:Loc} {es es':List ME} {c c':Nat} {arr':Array MapEntry} (hj:j n=some L) (hm:H.mapAt n=some (es,c)) (hr:RM ρ j es' arr'.toList) (P:Program):
  ∃ w',(Go.setObj L.blk (.map arr' c')).run P w= .ok () w'∧Inv ρ w0 j (H.upd n (.map es' c')) w'∧St j H j (H.upd n (.map es' c')):=by
 obtain ⟨arr,h1,h2⟩:=h.mapAt hj hm;obtain ⟨o,h3,h4⟩:=h.obj n L hj;rw [zi5 hm] at h3;cases h3;exact ⟨_,run_setObj_map P h1 rfl,h.setObj hj (zi5 hm) rfl rfl rfl fun w' e=>⟨h4.1,h4.2.1,h4.2.2.1,arr',e,hr⟩⟩
end
end Go.Dw
namespace Go.Dw
theorem zjf {v:Value} {n:Int} (h:zoQ v n=true):v= .int .i64 n:=by
 unfold zoQ at h;split at h
 ·rename_i m;have:m=n:=by simpa using h
  rw [this]
 ·cases h
theorem zig (n:Int):zoQ (.int .i64 n) n=true:=by simp [zoQ]
theorem zs5 {l:List MapEntry} (h:l.Pairwise fun a b=>a.key≠b.key) {e:MapEntry} {n:Int} (he:e∈l) (hk:e.key= .int .i64 n):l.find? (fun e=>zoQ e.key n)=some e:=by
 induction l with
 | nil=>cases he
 | cons x l ih=>
  rw [List.pairwise_cons] at h;rcases List.mem_cons.1 he with rfl|he
  ·rw [List.find?_cons_of_pos (by rw [hk];exact zig n)]
  ·rw [List.find?_cons_of_neg (fun hx=>h.1 e he (by rw [zjf hx,hk])),ih h.2 he]
theorem zbv {arr:Array MapEntry} (h:zb6 arr) {e:MapEntry} {n:Int} (he:e∈arr.toList) (hk:e.key= .int .i64 n):zaU arr n=some e.val:=by
 unfold zaU;rw [zs5 h.once he hk];rfl
theorem zb1 {arr:Array MapEntry} {n:Int} (h: ∀e∈arr.toList,e.key≠ .int .i64 n):zaU arr n=none:=by
 unfold zaU;rw [List.find?_eq_none.2 (fun e he hk=>h e he (zjf hk))];rfl
theorem zeY {arr:Array MapEntry} {n:Int} {v:Value} (h:zaU arr n=some v): ∃e∈arr.toList,e.key= .int .i64 n∧e.val=v:=by
 unfold zaU at h;rw [Option.map_eq_some_iff] at h;obtain ⟨e,he,rfl⟩:=h;exact ⟨e,List.mem_of_find?_eq_some he,zjf (by simpa using List.find?_some he),rfl⟩
theorem zfu {arr:Array MapEntry} {n:Int} (h:zaU arr n=none): ∀e∈arr.toList,e.key≠ .int .i64 n:=fun e he hk=>by
 unfold zaU at h;rw [Option.map_eq_none_iff,List.find?_eq_none] at h;exact h e he (by rw [hk];exact zig n)
theorem zbc {kk:IntKind} {n:Int}: ∀(xs:List MapEntry) (i:Nat),(∀e∈xs,∃m,e.key= .int .i64 m)→
  (Instr.findNow (.int kk) (.int .i64 n) xs i=some none∧ ∀e∈xs,e.key≠ .int .i64 n)∨(∃p e,Instr.findNow (.int kk) (.int .i64 n) xs i=some (some (i+p,e.val))∧xs[p]? =some e∧e.key= .int .i64 n)
 | [], i,_=> .inl ⟨rfl,by simp⟩
 | x::xs,i,h=>by
  obtain ⟨m,hm⟩:=h x (by simp);by_cases hmn:n=m
  ·subst hmn;exact .inr ⟨0,x,by simp [Instr.findNow,Instr.sameNow,hm],rfl,hm⟩
  ·have hs:Instr.findNow (.int kk) (.int .i64 n) (x::xs) i=Instr.findNow (.int kk) (.int .i64 n) xs (i+1):=by
    have hb:(n==m)=false:=by simpa using hmn
    simp [Instr.findNow,Instr.sameNow,hm,hb]
   rw [hs];rcases zbc xs (i+1) (fun e he=>h e (by simp [he])) with ⟨h1,h2⟩|⟨p,e,h1,h2,h3⟩
   ·refine .inl ⟨h1,fun e he=> ?_⟩;rcases List.mem_cons.1 he with rfl|he
    ·rw [hm];intro hh;cases hh;exact hmn rfl
    ·exact h2 e he
   ·exact .inr ⟨p+1,e,by rw [h1];congr 3;omega,by simpa using h2,h3⟩
theorem zc0 {α:Type} (l:List α) (f:α→α) (p i:Nat):(l.modify p f)[i]? =if p=i then l[i]?.map f else l[i]? :=by
 rw [List.getElem?_modify];by_cases h:p=i
 ·simp only [if_pos h];cases l[i]? <;>rfl
 ·simp only [if_neg h];cases l[i]? <;>rfl
theorem zjC {arr:Array MapEntry} (h:zb6 arr) {p:Nat} {e:MapEntry} {k:Int} {v:Value} (hp:arr.toList[p]? =some e) (hk:e.key= .int .i64 k):
  zb6 (arr.modify p fun y=> { y with key:= .int .i64 k,val:=v })∧ ∀n,zaU (arr.modify p fun y=> { y with key:= .int .i64 k,val:=v }) n=if n=k then some v else zaU arr n:=by
 have hlt:p<arr.toList.length:=by
  rw [List.getElem?_eq_some_iff] at hp;exact hp.1
 have hkeys:(arr.modify p fun y=> { y with key:= .int .i64 k,val:=v }).toList.map (·.key)=arr.toList.map (·.key):=by
  rw [Array.toList_modify];apply List.ext_getElem?;intro i;simp only [List.getElem?_map,zc0];by_cases hip:p=i
  ·subst hip;rw [hp];simp [hk]
  ·rw [if_neg hip]
 have hw:zb6 (arr.modify p fun y=> { y with key:= .int .i64 k,val:=v }):=by
  refine ⟨fun e' he'=> ?_,?_⟩
  ·have:e'.key∈arr.toList.map (·.key):=by rw [←hkeys];exact List.mem_map_of_mem he'
   obtain ⟨e2,h2,h3⟩:=List.mem_map.1 this;obtain ⟨n,hn⟩:=h.keys e2 h2;exact ⟨n,by rw [←h3];exact hn⟩
  ·have h1:(arr.toList.map (·.key)).Pairwise (· ≠ ·):=List.pairwise_map.2 h.once;rw [←hkeys] at h1;exact List.pairwise_map.1 h1
 refine ⟨hw,fun n=> ?_⟩;have hat:(arr.modify p fun y=> { y with key:= .int .i64 k,val:=v }).toList[p]? =some { e with key:= .int .i64 k,val:=v }:=by
  rw [Array.toList_modify,zc0,if_pos rfl,hp];rfl
 by_cases hn:n=k
 ·subst hn;rw [if_pos rfl];exact zbv hw (List.mem_of_getElem? hat) rfl
 ·rw [if_neg hn];have oth: ∀e',e'.key≠ .int .i64 k→(e'∈(arr.modify p fun y=> { y with key:= .int .i64 k,val:=v }).toList↔e'∈arr.toList):=fun e' hne=>by
   rw [Array.toList_modify];simp only [List.mem_iff_getElem?,zc0];constructor
   ·rintro ⟨i,hi⟩;by_cases hip:p=i
    ·subst hip;rw [if_pos rfl,hp] at hi;cases hi;exact absurd rfl hne
    ·rw [if_neg hip] at hi;exact ⟨i,by simpa using hi⟩
   ·rintro ⟨i,hi⟩;by_cases hip:p=i
    ·subst hip;rw [hp] at hi;cases hi;exact absurd hk hne
    ·exact ⟨i,by rw [if_neg hip];simpa using hi⟩
  cases hv:zaU arr n with
  | none=>
   refine zb1 fun e' he' hk'=> ?_;have hne:e'.key≠ .int .i64 k:=by rw [hk'];intro hh;cases hh;exact hn rfl
   exact zfu hv e' ((oth e' hne).1 he') hk'
  | some u=>
   obtain ⟨e',he',hk',rfl⟩:=zeY hv;have hne:e'.key≠ .int .i64 k:=by rw [hk'];intro hh;cases hh;exact hn rfl
   exact zbv hw ((oth e' hne).2 he') hk'
theorem zli {arr:Array MapEntry} (h:zb6 arr) {k:Int} {v:Value} {c:Nat} (hk: ∀e∈arr.toList,e.key≠ .int .i64 k):
  zb6 (arr.push { key:= .int .i64 k,val:=v,born:=c })∧ ∀n,zaU (arr.push { key:= .int .i64 k,val:=v,born:=c }) n=if n=k then some v else zaU arr n:=by
 have hw:zb6 (arr.push { key:= .int .i64 k,val:=v,born:=c }):=by
  refine ⟨fun e he=> ?_,?_⟩
  ·rw [Array.toList_push,List.mem_append] at he;rcases he with he|he
   ·exact h.keys e he
   ·rw [List.mem_singleton] at he;subst he;exact ⟨k,rfl⟩
  ·rw [Array.toList_push,List.pairwise_append];refine ⟨h.once,by simp,fun a ha b hb=> ?_⟩;rw [List.mem_singleton] at hb;subst hb;exact hk a ha
 refine ⟨hw,fun n=> ?_⟩;by_cases hn:n=k
 ·subst hn;rw [if_pos rfl];exact zbv hw (e:= { key:= .int .i64 n,val:=v,born:=c }) (by rw [Array.toList_push];simp) rfl
 ·rw [if_neg hn];cases hv:zaU arr n with
  | none=>
   refine zb1 fun e he hke=> ?_;rw [Array.toList_push,List.mem_append] at he;rcases he with he|he
   ·exact zfu hv e he hke
   ·rw [List.mem_singleton] at he;subst he;cases hke;exact hn rfl
  | some u=>
   obtain ⟨e,he,hke,rfl⟩:=zeY hv;exact zbv hw (by rw [Array.toList_push];simp [he]) hke
theorem zmO {arr:Array MapEntry} (h:zb6 arr) {p:Nat} {e:MapEntry} {k:Int} (hp:arr.toList[p]? =some e) (hk:e.key= .int .i64 k):
  zb6 (arr.eraseIdxIfInBounds p)∧ ∀n,zaU (arr.eraseIdxIfInBounds p) n=if n=k then none else zaU arr n:=by
 have hl:(arr.eraseIdxIfInBounds p).toList=arr.toList.eraseIdx p:=by
  unfold Array.eraseIdxIfInBounds;split
  ·simp
  ·rw [List.eraseIdx_of_length_le];simp;omega
 have hlt:p<arr.toList.length:=by
  rw [List.getElem?_eq_some_iff] at hp;exact hp.1
 have hsub:(arr.toList.eraseIdx p).Sublist arr.toList:=List.eraseIdx_sublist ..;have hw:zb6 (arr.eraseIdxIfInBounds p):=⟨fun e he=>h.keys e (hsub.subset (by rw [←hl];exact he)),by rw [hl];exact h.once.sublist hsub⟩;have hsplit:arr.toList=arr.toList.take p++e::arr.toList.drop (p+1):=by
  have h1:=List.take_append_drop p arr.toList;rw [List.drop_eq_getElem_cons hlt] at h1;rw [List.getElem?_eq_some_iff] at hp;obtain ⟨_,h2⟩:=hp;rw [h2] at h1;exact h1.symm
 have her:arr.toList.eraseIdx p=arr.toList.take p++arr.toList.drop (p+1):=List.eraseIdx_eq_take_drop_succ ..;refine ⟨hw,fun n=> ?_⟩;have hone:=h.once;rw [hsplit,List.pairwise_append] at hone;obtain ⟨_,h2,h3⟩:=hone;rw [List.pairwise_cons] at h2;by_cases hn:n=k
 ·subst hn;rw [if_pos rfl];refine zb1 fun e' he' hke=> ?_;rw [hl,her,List.mem_append] at he';rcases he' with he'|he'
  ·exact h3 e' he' e (by simp) (by rw [hke,hk])
  ·exact h2.1 e' he' (by rw [hke,hk])
 ·rw [if_neg hn];cases hv:zaU arr n with
  | none=>
   refine zb1 fun e' he' hke=> ?_;rw [hl] at he';exact zfu hv e' (hsub.subset he') hke
  | some u=>
   obtain ⟨e',he',hke,rfl⟩:=zeY hv;refine zbv hw ?_ hke;rw [hl,her];rw [hsplit] at he';rcases List.mem_append.1 he' with he'|he'
   ·exact List.mem_append_left _ he'
   ·rcases List.mem_cons.1 he' with rfl|he'
    ·rw [hke] at hk;cases hk;exact absurd rfl hn
    ·exact List.mem_append_right _ he'
theorem zga {arr:Array MapEntry} {k:Int} (h: ∀e∈arr.toList,e.key≠ .int .i64 k) (n:Int):zaU arr n=if n=k then none else zaU arr n:=by
 by_cases hn:n=k
 ·rw [if_pos hn,hn];exact zb1 h
 ·rw [if_neg hn]
section
variable {ρ:Val}
theorem Fld.den_bit (f:Fld) (b:Nat):(f.den ρ).testBit b=(decide (f.sh≤b)&&(decide (b-f.sh<f.n)&&(max f.lo (min (ρ.i f.i).toNat f.hi)).testBit (f.fr+(b-f.sh)))):=by
 unfold Fld.den;rw [Nat.testBit_shiftLeft,Nat.testBit_mod_two_pow,Nat.testBit_shiftRight]
theorem zd0 (W:Nat): ∀(l:List Fld) (c:Nat),zab ρ (zcQ W l) (c%2^W)=zab ρ l c%2^W
 | [], c=>rfl
 | f::l,c=>by
  have ih:=zd0 W l c;apply Nat.eq_of_testBit_eq;intro b;have ihb:=congrArg (fun x=>x.testBit b) ih;simp only [Nat.testBit_mod_two_pow] at ihb;rw [Nat.testBit_mod_two_pow];unfold zcQ;cases h1:Nat.blt f.sh W with
  | false=>
   have h1': ¬f.sh<W:=fun hh=>by rw [←Nat.blt_eq] at hh;rw [hh] at h1;cases h1
   simp only;rw [ihb];show _=(decide (b<W)&&(f.den ρ|||zab ρ l c).testBit b);rw [Nat.testBit_or,Fld.den_bit];by_cases hb:b<W
   ·have: ¬f.sh≤b:=by omega
    simp [hb,this]
   ·simp [hb]
  | true=>
   rw [Nat.blt_eq] at h1;cases h2:Nat.ble (Nat.add f.sh f.n) W with
   | true=>
    have h2:f.sh+f.n≤W:=Nat.le_of_ble_eq_true h2;show (f.den ρ|||zab ρ (zcQ W l) (c%2^W)).testBit b=(decide (b<W)&&(f.den ρ|||zab ρ l c).testBit b);rw [Nat.testBit_or,Nat.testBit_or,ihb,Fld.den_bit];by_cases hb:b<W
    ·simp [hb]
    ·have: ¬b-f.sh<f.n:=by omega
     simp [hb,this]
   | false=>
    have h2: ¬f.sh+f.n≤W:=fun hh=>by
     have e:Nat.ble (Nat.add f.sh f.n) W=true:=Nat.ble_eq_true_of_le hh;rw [e] at h2;cases h2
    show (Fld.den ρ ⟨f.i,f.lo,f.hi,f.fr,W-f.sh,f.sh⟩|||zab ρ (zcQ W l) (c%2^W)).testBit b=(decide (b<W)&&(f.den ρ|||zab ρ l c).testBit b);rw [Nat.testBit_or,Nat.testBit_or,ihb,Fld.den_bit,Fld.den_bit];simp only;by_cases hb:b<W
    ·by_cases hs:f.sh≤b
     ·have e1:b-f.sh<W-f.sh:=by omega
      have e2:b-f.sh<f.n:=by omega
      simp [hb,hs,e1,e2]
     ·simp [hb,hs]
    ·have: ¬b-f.sh<W-f.sh:=by omega
     simp [hb,this]
theorem zgH (m:Nat): ∀(l:List Fld) (c:Nat),zab ρ (zf6 m l) (c/2^m)=zab ρ l c/2^m
 | [], c=>rfl
 | f::l,c=>by
  have ih:=zgH m l c;apply Nat.eq_of_testBit_eq;intro b;have ihb:=congrArg (fun x=>x.testBit b) ih;simp only [←Nat.shiftRight_eq_div_pow,Nat.testBit_shiftRight] at ihb ⊢;unfold zf6;cases h1:Nat.ble m f.sh with
  | true=>
   have h1:m≤f.sh:=Nat.le_of_ble_eq_true h1;show (Fld.den ρ ⟨f.i,f.lo,f.hi,f.fr,f.n,f.sh-m⟩|||zab ρ (zf6 m l) (c>>>m)).testBit b=(f.den ρ|||zab ρ l c).testBit (m+b);rw [Nat.testBit_or,Nat.testBit_or,ihb,Fld.den_bit,Fld.den_bit];simp only;have e1:(f.sh-m≤b)↔(f.sh≤m+b):=by omega
   by_cases hs:f.sh≤m+b
   ·have e2:b-(f.sh-m)=m+b-f.sh:=by omega
    simp [e1,hs,e2]
   ·simp [e1,hs]
  | false=>
   have h1': ¬m≤f.sh:=fun hh=>by rw [Nat.ble_eq_true_of_le hh] at h1;cases h1
   cases h2:Nat.blt m (Nat.add f.sh f.n) with
   | true=>
    have h2:m<f.sh+f.n:=by rw [Nat.blt_eq] at h2;exact h2
    show (Fld.den ρ ⟨f.i,f.lo,f.hi,f.fr+(m-f.sh),f.n-(m-f.sh),0⟩|||zab ρ (zf6 m l) (c>>>m)).testBit b=(f.den ρ|||zab ρ l c).testBit (m+b);rw [Nat.testBit_or,Nat.testBit_or,ihb,Fld.den_bit,Fld.den_bit];simp only;have e1:f.sh≤m+b:=by omega
    have e2:(b<f.n-(m-f.sh))↔(m+b-f.sh<f.n):=by omega
    have e3:f.fr+(m-f.sh)+b=f.fr+(m+b-f.sh):=by omega
    simp [e1,e2,e3]
   | false=>
    have h2': ¬m<f.sh+f.n:=fun hh=>by rw [←Nat.blt_eq] at hh;change Nat.blt m (Nat.add f.sh f.n)=true at hh;rw [hh] at h2;cases h2
    show (zab ρ (zf6 m l) (c>>>m)).testBit b=(f.den ρ|||zab ρ l c).testBit (m+b);rw [Nat.testBit_or,ihb,Fld.den_bit];have: ¬m+b-f.sh<f.n:=by omega
    simp [this]
theorem zjL (m:Nat): ∀(l:List Fld) (c:Nat),zab ρ (zpN m l) (c*2^m)=zab ρ l c*2^m
 | [], c=>rfl
 | f::l,c=>by
  have ih:=zjL m l c;apply Nat.eq_of_testBit_eq;intro b;have ihb:=congrArg (fun x=>x.testBit b) ih;simp only [←Nat.shiftLeft_eq,Nat.testBit_shiftLeft] at ihb ⊢;show (Fld.den ρ ⟨f.i,f.lo,f.hi,f.fr,f.n,f.sh+m⟩|||zab ρ (zpN m l) (c<<<m)).testBit b=(decide (b≥m)&&(f.den ρ|||zab ρ l c).testBit (b-m));rw [Nat.testBit_or,Nat.testBit_or,ihb,Fld.den_bit,Fld.den_bit];simp only;by_cases hm:m≤b
  ·have e1:(f.sh+m≤b)↔(f.sh≤b-m):=by omega
   have e2:b-(f.sh+m)=b-m-f.sh:=by omega
   simp [hm,e1,e2]
  ·have e1: ¬f.sh+m≤b:=by omega
   simp [hm,e1]
theorem znD {g f h:Fld} (hf:fuse g f=some h):h.den ρ=g.den ρ|||f.den ρ:=by
 unfold fuse at hf;split at hf
 case h_2=>cases hf
 rename_i h1 h2 h3 h4 h5;cases hf;have h1:=zaj h1;have h2:=zaj h2;have h3:=zaj h3;have h4:g.fr+g.n=f.fr:=zaj h4;have h5:g.sh+g.n=f.sh:=zaj h5;apply Nat.eq_of_testBit_eq;intro b;rw [Nat.testBit_or,Fld.den_bit,Fld.den_bit,Fld.den_bit];simp only;rw [←h1,←h2,←h3,←h4,←h5];by_cases hs:g.sh≤b
 ·by_cases hn:b-g.sh<g.n
  ·have e1:b-g.sh<g.n+f.n:=by omega
   have e2: ¬g.sh+g.n≤b:=by omega
   simp [hs,hn,e1,e2]
  ·have e2:g.sh+g.n≤b:=by omega
   have e1:(b-g.sh<g.n+f.n)↔(b-(g.sh+g.n)<f.n):=by omega
   have e3:g.fr+g.n+(b-(g.sh+g.n))=g.fr+(b-g.sh):=by omega
   simp [hs,hn,e1,e2,e3]
 ·have e2: ¬g.sh+g.n≤b:=by omega
  simp [hs,e2]
theorem ze5: ∀(l:List Fld) (f:Fld) (c:Nat),zab ρ (zkF l f) c=f.den ρ|||zab ρ l c
 | [], f,c=>rfl
 | g::l,f,c=>by
  unfold zkF;split
  ·rename_i h hh;rw [ze5 l h c,znD hh];show g.den ρ|||f.den ρ|||zab ρ l c=f.den ρ|||(g.den ρ|||zab ρ l c);rw [←Nat.or_assoc,Nat.or_comm (f.den ρ)]
  ·split
   ·rename_i h hh;rw [ze5 l h c,znD hh];show f.den ρ|||g.den ρ|||zab ρ l c=f.den ρ|||(g.den ρ|||zab ρ l c);rw [Nat.or_assoc]
   ·show g.den ρ|||zab ρ (zkF l f) c=f.den ρ|||(g.den ρ|||zab ρ l c);rw [ze5 l f c,←Nat.or_assoc,←Nat.or_assoc,Nat.or_comm (g.den ρ)]
theorem zkM: ∀(l:List Fld) (c d:Nat),zab ρ l (c|||d)=zab ρ l c|||d
 | [], c,d=>rfl
 | f::l,c,d=>by
  show f.den ρ|||zab ρ l (c|||d)=f.den ρ|||zab ρ l c|||d;rw [zkM l c d,Nat.or_assoc]
theorem zc4: ∀(m l:List Fld) (c d:Nat),zab ρ (zdP l m) (c|||d)=zab ρ l c|||zab ρ m d
 | [], l,c,d=>zkM l c d
 | f::m,l,c,d=>by
  unfold zdP;rw [zc4 m (zkF l f) c d,ze5];show f.den ρ|||zab ρ l c|||zab ρ m d=zab ρ l c|||(f.den ρ|||zab ρ m d);rw [←Nat.or_assoc,Nat.or_comm (f.den ρ)]
theorem zh9 (keep:Nat→Bool) (f:Fld): ∀(k:Nat),k≤f.n→ ∀b,(zab ρ (pieces keep f k) 0).testBit b=(keep b&&(decide (f.sh≤b)&&(decide (b-f.sh<k)&&(max f.lo (min (ρ.i f.i).toNat f.hi)).testBit (f.fr+(b-f.sh)))))
 | 0,_,b=>by simp [pieces,zab]
 | k+1,hk,b=>by
  have ih:=zh9 keep f k (by omega) b;unfold pieces;by_cases he:b=f.sh+k
  ·subst he;have e0: ¬(f.sh+k-f.sh<k):=by omega
   have e1:f.sh+k-f.sh<k+1:=by omega
   simp only [e0,decide_false,Bool.false_and,Bool.and_false] at ih;cases hkeep:keep (Nat.add f.sh k) with
   | true=>
    have hkeep:keep (f.sh+k)=true:=hkeep;show (Fld.den ρ ⟨f.i,f.lo,f.hi,f.fr+k,1,f.sh+k⟩|||zab ρ (pieces keep f k) 0).testBit (f.sh+k)=_;rw [Nat.testBit_or,ih,Fld.den_bit];simp [hkeep]
   | false=>
    have hkeep:keep (f.sh+k)=false:=hkeep;simp only;rw [ih];simp [hkeep]
  ·have e1:(b-f.sh<k+1∧f.sh≤b)↔(b-f.sh<k∧f.sh≤b):=by omega
   have hr:(keep b&&(decide (f.sh≤b)&&(decide (b-f.sh<k+1)&&(max f.lo (min (ρ.i f.i).toNat f.hi)).testBit (f.fr+(b-f.sh)))))=(keep b&&(decide (f.sh≤b)&&(decide (b-f.sh<k)&&(max f.lo (min (ρ.i f.i).toNat f.hi)).testBit (f.fr+(b-f.sh))))):=by
    by_cases hs:f.sh≤b
    ·have:(b-f.sh<k+1)↔(b-f.sh<k):=by omega
     simp [hs,this]
    ·simp [hs]
   rw [hr];cases hkeep:keep (Nat.add f.sh k) with
   | true=>
    show (Fld.den ρ ⟨f.i,f.lo,f.hi,f.fr+k,1,f.sh+k⟩|||zab ρ (pieces keep f k) 0).testBit b=_;rw [Nat.testBit_or,ih,Fld.den_bit];simp only;by_cases hs:f.sh+k≤b
    ·have: ¬b-(f.sh+k)<1:=by omega
     simp [hs,this]
    ·simp [hs]
   | false=>exact ih
theorem zfv (keep:Nat→Bool) (c d:Nat) (hd: ∀b,d.testBit b=(keep b&&c.testBit b)): ∀(l:List Fld) (b:Nat),(zab ρ (zfW keep l) d).testBit b=(keep b&&(zab ρ l c).testBit b)
 | [], b=>hd b
 | f::l,b=>by
  unfold zfW;have e:=zc4 (ρ:=ρ) (pieces keep f f.n) (zfW keep l) d 0;rw [Nat.or_zero] at e;rw [e,Nat.testBit_or,zfv keep c d hd l b,zh9 keep f f.n (Nat.le_refl _) b];show _=(keep b&&(f.den ρ|||zab ρ l c).testBit b);rw [Nat.testBit_or,Fld.den_bit];cases keep b<;>simp [Bool.or_comm]
theorem zrf {W:Nat}: ∀ {l:List Fld} {c:Nat},fits W l=true→c<2^W→zab ρ l c<2^W
 | [], c,_,hc=>hc
 | f::l,c,h,hc=>by
  unfold fits at h;split at h
  ·rename_i hb;have hb:f.sh+f.n≤W:=Nat.le_of_ble_eq_true hb;refine Nat.or_lt_two_pow ?_ (zrf h hc);refine Nat.lt_pow_two_of_testBit _ fun i hi=> ?_;rw [Fld.den_bit];have: ¬i-f.sh<f.n:=by omega
   simp [this]
  ·cases h
theorem zbw {W:Nat} {l:List Fld} {c:Nat} (h:zfy W l c=true):zab ρ l c<2^W:=by
 unfold zfy at h;split at h
 ·rename_i hc;rw [Nat.blt_eq] at hc;exact zrf h hc
 ·cases h
theorem zpx {a:SE} {l:List Fld} {c:Nat} (h:toF a=some (l,c)):a.den ρ=Int.ofNat (zab ρ l c):=by
 unfold toF at h;split at h
 ·cases h;rfl
 ·cases h;rfl
 ·cases h
theorem zcK (l:List Fld) (c:Nat):(ofF l c).den ρ=Int.ofNat (zab ρ l c):=by
 unfold ofF;split
 ·rw [zbK];rfl
 ·rw [zbK];rfl
theorem zlk (k:IntKind):zcR k=2^wOf k:=by cases k<;>rfl
theorem wrap_small {k:IntKind} {n:Nat} (h:n<2^wOf k):k.wrap (Int.ofNat n)=Int.ofNat n:=by
 rw [←zgf];have:Nat.blt n (zcR k)=true:=by rw [Nat.blt_eq,zlk];exact h
 simp only [zgz,this]
theorem zeF {k:IntKind} (h:sgn k=false) (n:Nat):k.wrap (Int.ofNat n)=Int.ofNat (n%2^wOf k):=by
 cases k<;>first|(cases h;done)|skip
 all_goals
  simp [IntKind.wrap,IntKind.signed,IntKind.bits,wOf]
theorem zod {k:IntKind} (h:sgn k=false) (n:Int): ∃x:Nat,k.wrap n=Int.ofNat x∧0≤x∧x≤2^wOf k-1:=by
 refine ⟨(k.wrap n).toNat,?_,Nat.zero_le _,?_⟩
 all_goals
  cases k<;>first|(cases h;done)|skip
  all_goals
   simp [IntKind.wrap,IntKind.signed,IntKind.bits,wOf];omega
theorem zdb {k:IntKind} {p q:Nat} (h:topB k=some (p,q)) (n:Int): ∃x:Nat,k.wrap n=Int.ofNat x∧p≤x∧x≤q:=by
 unfold topB at h;split at h
 ·cases h
 ·rename_i hk;cases h;exact zod hk n
theorem zr5 {k:IntKind} (h:sgn k=false) {x y:Nat} (hlt:x<y) (hy:y≤2^wOf k):k.wrap (Int.ofNat x-Int.ofNat y)=Int.ofNat (2^wOf k+x-y):=by
 have hx:2^wOf k+x-y<2^wOf k:=by omega
 have e:Int.ofNat x-Int.ofNat y=Int.ofNat (2^wOf k+x-y)-(2:Int)^wOf k:=by
  have:((2^wOf k:Nat):Int)=(2:Int)^wOf k:=by simp
  simp only [Int.ofNat_eq_natCast];omega
 rw [e,←wrap_small hx];cases k<;>first|(cases h;done)|skip
 all_goals
  simp [IntKind.wrap,IntKind.signed,IntKind.bits,wOf]
theorem zeE: ∀ {a:SE} {p q:Nat},bnd a=some (p,q)→ ∃x:Nat,a.den ρ=Int.ofNat x∧p≤x∧x≤q:=by
 intro a
 induction a with
 | bin o k x y ihx ihy=>
  intro p q h;cases o
  case add=>
   unfold bnd at h;split at h
   ·rename_i p1 q1 r1 s1 hx hy;obtain ⟨u,eu,u1,u2⟩:=ihx hx;obtain ⟨v,ev,v1,v2⟩:=ihy hy;split at h
    ·rename_i hlt;rw [Nat.blt_eq] at hlt;have hlt:q1+s1<2^wOf k:=hlt;cases h;refine ⟨u+v,?_,by show p1+r1≤u+v;omega,by show u+v≤q1+s1;omega⟩;show k.wrap (SE.den ρ x+SE.den ρ y)=_;rw [eu,ev];exact wrap_small (n:=u+v) (by omega)
    ·exact zdb h _
   ·exact zdb h _
  case sub=>
   unfold bnd at h;split at h
   ·rename_i p1 q1 r1 s1 hx hy;obtain ⟨u,eu,u1,u2⟩:=ihx hx;obtain ⟨v,ev,v1,v2⟩:=ihy hy;split at h
    ·rename_i hle hlt;rw [Nat.blt_eq] at hlt;have hlt:q1<2^wOf k:=hlt;have hle:=Nat.le_of_ble_eq_true hle;cases h;refine ⟨u-v,?_,by show p1-s1≤u-v;omega,by show u-v≤q1-r1;omega⟩;show k.wrap (SE.den ρ x-SE.den ρ y)=_;rw [eu,ev];have e:Int.ofNat u-Int.ofNat v=Int.ofNat (u-v):=by simp only [Int.ofNat_eq_natCast];omega
     rw [e];exact wrap_small (by omega)
    ·split at h
     ·rename_i hlt hle hk;rw [Nat.blt_eq] at hlt;have hle:=Nat.le_of_ble_eq_true hle;have hle:s1≤2^wOf k:=hle;cases h;refine ⟨2^wOf k+u-v,?_,by show 2^wOf k+p1-s1≤_;omega,by show _≤2^wOf k+q1-r1;omega⟩;show k.wrap (SE.den ρ x-SE.den ρ y)=_;rw [eu,ev];exact zr5 hk (by omega) (by omega)
     ·exact zdb h _
   ·exact zdb h _
  case mul=>
   unfold bnd at h;split at h
   ·rename_i p1 q1 r1 s1 hx hy;obtain ⟨u,eu,u1,u2⟩:=ihx hx;obtain ⟨v,ev,v1,v2⟩:=ihy hy;split at h
    ·rename_i hlt;rw [Nat.blt_eq] at hlt;have hlt:q1*s1<2^wOf k:=hlt;have h1:u*v≤q1*s1:=Nat.mul_le_mul u2 v2;have h2:p1*r1≤u*v:=Nat.mul_le_mul u1 v1;cases h;refine ⟨u*v,?_,h2,h1⟩;show k.wrap (SE.den ρ x*SE.den ρ y)=_;rw [eu,ev];exact wrap_small (n:=u*v) (by omega)
    ·exact zdb h _
   ·exact zdb h _
  case rem=>
   unfold bnd at h;split at h
   case h_2=>cases h
   rename_i p1 q1 r1 s1 hx hy;obtain ⟨u,eu,u1,u2⟩:=ihx hx;obtain ⟨v,ev,v1,v2⟩:=ihy hy;split at h
   case h_2=>cases h
   rename_i hlt;rw [Nat.blt_eq] at hlt;cases h;refine ⟨u%v,?_,Nat.zero_le _,?_⟩
   ·show (SE.den ρ x).tmod (SE.den ρ y)=_;rw [eu,ev];rfl
   ·have h1:=Nat.mod_lt u (show v>0 by omega);have h2:=Nat.mod_le u v;show u%v≤min q1 (s1-1);omega
  all_goals (unfold bnd at h;cases h)
 | var i=>intro p q h;unfold bnd at h;cases h
 | wrap k x ih=>intro p q h;unfold bnd at h;exact zdb h _
 | lit n=>
  intro p q h;cases n with
  | ofNat n=>unfold bnd at h;cases h;exact ⟨_,rfl,Nat.le_refl _,Nat.le_refl _⟩
  | negSucc n=>unfold bnd at h;cases h
 | flds l c=>
  intro p q h;unfold bnd at h;split at h<;>first|(rename_i heq;cases heq;done)|skip
  ·rename_i f heq;cases heq;split at h
   ·rename_i h1 h2 h3;cases h;have h1:=zaj h1;have h2:=zaj h2;rw [Nat.blt_eq] at h3;refine ⟨_,rfl,?_⟩;have e:zab ρ [f] 0=max f.lo (min (ρ.i f.i).toNat f.hi):=by
     show f.den ρ|||0=_;rw [Nat.or_zero];unfold Fld.den;rw [h1,h2];simp only [Nat.shiftRight_zero,Nat.shiftLeft_zero];refine Nat.mod_eq_of_lt (Nat.lt_of_le_of_lt ?_ h3);show max f.lo (min (ρ.i f.i).toNat f.hi)≤max f.lo f.hi;omega
    rw [e];have e2:Nat.max f.lo f.hi=max f.lo f.hi:=rfl;rw [e2];omega
   ·split at h
    ·rename_i hf;cases h;have:=zbw (ρ:=ρ) hf;exact ⟨_,rfl,Nat.zero_le _,by omega⟩
    ·cases h
  ·cases h
theorem zow (k:IntKind) (a:SE):(zpV k a).den ρ=k.wrap (a.den ρ):=by
 unfold zpV;split
 ·rename_i p q hb;split
  ·rename_i hq;rw [Nat.blt_eq] at hq;obtain ⟨x,e,_,h2⟩:=zeE (ρ:=ρ) hb;rw [e,wrap_small (Nat.lt_of_le_of_lt h2 hq)]
  ·rfl
 ·rfl
theorem zpU (k:IntKind) (a:SE):(zuV k a).den ρ=k.wrap (a.den ρ):=by
 unfold zuV;split
 ·rename_i l c;split
  ·split
   ·rename_i h;exact (wrap_small (zbw h)).symm
   ·rfl
  ·rename_i h;rw [zcK];show Int.ofNat (zab ρ (zcQ (wOf k) l) (c%2^wOf k))=k.wrap (Int.ofNat (zab ρ l c));rw [zd0,zeF h]
 ·exact zow k _
theorem zhB {o:BinOp} (ho:o= .and∨o= .or∨o= .xor∨o= .andNot) {k:IntKind} {x y:Nat} (hx:x<2^wOf k) (hy:y<2^wOf k):zct o k (Int.ofNat x) (Int.ofNat y)=bitsF.nat o x y:=by
 rw [←zfc o ho];have e1:Nat.blt x (zcR k)=true:=by rw [Nat.blt_eq,zlk];exact hx
 have e2:Nat.blt y (zcR k)=true:=by rw [Nat.blt_eq,zlk];exact hy
 simp only [bitsF,e1,e2]
theorem zuW (k:IntKind) {a b:SE} {l l':List Fld} {c c':Nat} (ha:a.den ρ=Int.ofNat (zab ρ l c)) (hb:b.den ρ=Int.ofNat (zab ρ l' c')):(sOr k a b l c l' c').den ρ=zcq .or k (a.den ρ) (b.den ρ):=by
 unfold sOr;split
 ·rename_i h1 h2;rw [zcK,ha,hb];show Int.ofNat (zab ρ (zdP l l') (c|||c'))=zct .or k _ _;rw [zhB (by simp) (zbw h1) (zbw h2),zc4];rfl
 ·rfl
theorem zmY (k:IntKind) {a b:SE} {l:List Fld} {c m:Nat} (ha:a.den ρ=Int.ofNat (zab ρ l c)) (hb:b.den ρ=Int.ofNat m):(sAnd k a b l c m).den ρ=zcq .and k (a.den ρ) (b.den ρ):=by
 unfold sAnd;split
 ·rename_i h1 h2;rw [Nat.blt_eq] at h2;rw [zcK,ha,hb];show Int.ofNat (zab ρ (zfW (Nat.testBit m) l) (c&&&m))=zct .and k _ _;rw [zhB (by simp) (zbw h1) h2];show Int.ofNat _=Int.ofNat (zab ρ l c&&&m);congr 1;apply Nat.eq_of_testBit_eq;intro b;rw [zfv (Nat.testBit m) c (c&&&m) (fun b=>by rw [Nat.testBit_and,Bool.and_comm]) l b,Nat.testBit_and,Bool.and_comm]
 ·rfl
theorem zlx (k:IntKind) {a b:SE} {l:List Fld} {c m:Nat} (ha:a.den ρ=Int.ofNat (zab ρ l c)) (hb:b.den ρ=Int.ofNat m):(zly k a b l c m).den ρ=zcq .andNot k (a.den ρ) (b.den ρ):=by
 unfold zly;split
 ·rename_i h1 h2;rw [Nat.blt_eq] at h2;rw [zcK,ha,hb];show Int.ofNat (zab ρ (zfW _ l) (c^^^(c&&&m)))=zct .andNot k _ _;rw [zhB (by simp) (zbw h1) h2];show Int.ofNat _=Int.ofNat (zab ρ l c^^^(zab ρ l c&&&m));congr 1;apply Nat.eq_of_testBit_eq;intro b;rw [zfv _ c (c^^^(c&&&m)) (fun b=>by rw [Nat.testBit_xor,Nat.testBit_and];cases m.testBit b<;>cases c.testBit b<;>rfl) l b,Nat.testBit_xor,Nat.testBit_and];cases m.testBit b<;>cases (zab ρ l c).testBit b<;>rfl
 ·rfl
theorem zsl (k:IntKind) {a b:SE} {l:List Fld} {c n:Nat} (ha:a.den ρ=Int.ofNat (zab ρ l c)) (hb:b.den ρ=Int.ofNat n):(sShl k a b l c n).den ρ=zcq .shl k (a.den ρ) (b.den ρ):=by
 unfold sShl;split
 ·rename_i h1 h2;have h1:n≤k.bits:=Nat.le_of_ble_eq_true h1;rw [zcK,ha,hb];show Int.ofNat (zab ρ (zcQ (wOf k) (zpN n l)) (c*2^n%2^wOf k))=k.wrap (Int.ofNat (zab ρ l c)*2^(min (Int.ofNat n).toNat k.bits));have e:(Int.ofNat (zab ρ l c)*2^(min (Int.ofNat n).toNat k.bits):Int)=Int.ofNat (zab ρ l c*2^n):=by
   have:min (Int.ofNat n).toNat k.bits=n:=by simp;omega
   rw [this];simp
  rw [e,zeF h2,zd0,zjL]
 ·rfl
theorem zsk (k:IntKind) {a b:SE} {l:List Fld} {c n:Nat} (ha:a.den ρ=Int.ofNat (zab ρ l c)) (hb:b.den ρ=Int.ofNat n):(sShr k a b l c n).den ρ=zcq .shr k (a.den ρ) (b.den ρ):=by
 unfold sShr;split
 ·rename_i h1;have h1:n≤k.bits:=Nat.le_of_ble_eq_true h1;rw [zcK,ha,hb];show Int.ofNat (zab ρ (zf6 n l) (c/2^n))=(Int.ofNat (zab ρ l c)).fdiv (2^(min (Int.ofNat n).toNat k.bits));have e1:min (Int.ofNat n).toNat k.bits=n:=by simp;omega
  rw [e1,zgH,Int.fdiv_eq_ediv_of_nonneg _ (by exact_mod_cast Nat.zero_le _)];simp
 ·rfl
theorem zuX {o:BinOp} (ho:o= .add∨o= .sub) (k:IntKind) {a b:SE} {l l':List Fld} {c c':Nat} (ha:a.den ρ=Int.ofNat (zab ρ l c)) (hb:b.den ρ=Int.ofNat (zab ρ l' c')):(sId o k a b l c l' c').den ρ=zcq o k (a.den ρ) (b.den ρ):=by
 unfold sId;split
 ·split
  ·rename_i h1 h2;have h1:=zaj h1;subst h1;have hb:b.den ρ=0:=hb;rw [zcK,ha,hb];rcases ho with rfl|rfl
   ·show _=k.wrap (Int.ofNat (zab ρ l c)+0);rw [Int.add_zero,wrap_small (zbw h2)]
   ·show _=k.wrap (Int.ofNat (zab ρ l c)-0);rw [Int.sub_zero,wrap_small (zbw h2)]
  ·rfl
 ·rfl
theorem zlb {m:Nat}: ∀ {l:List Fld} {c:Nat},ztG m l=true→c%2^m=0→zab ρ l c%2^m=0
 | [], c,_,h=>h
 | f::l,c,ha,hc=>by
  unfold ztG at ha;split at ha
  ·rename_i hb;have hb:=Nat.le_of_ble_eq_true hb;have ih:=zlb ha hc;apply Nat.eq_of_testBit_eq;intro b;have ihb:=congrArg (fun x=>x.testBit b) ih;simp only [Nat.testBit_mod_two_pow,Nat.zero_testBit] at ihb;rw [Nat.testBit_mod_two_pow,Nat.zero_testBit];show (decide (b<m)&&(f.den ρ|||zab ρ l c).testBit b)=false;rw [Nat.testBit_or,Fld.den_bit];by_cases hlt:b<m
   ·have: ¬f.sh≤b:=by omega
    simp only [hlt,decide_true,Bool.true_and] at ihb;simp [this,ihb]
   ·simp [hlt]
  ·cases ha
theorem zsq (k:IntKind) {a b:SE} {l l':List Fld} {c c':Nat} (ha:a.den ρ=Int.ofNat (zab ρ l c)) (hb:b.den ρ=Int.ofNat (zab ρ l' c')):(sAdd k a b l c l' c').den ρ=zcq .add k (a.den ρ) (b.den ρ):=by
 unfold sAdd;split
 case h_2=>rfl
 rename_i g1 g2;split
 case h_2=>rfl
 rename_i h1 h2 h3;rw [zcK,ha,hb];have h3:=zaj h3;have hlt:=zbw (ρ:=ρ) h1;have hmod:=zlb (ρ:=ρ) h2 h3;have hsum:zab ρ (zdP l l') (Nat.lor c c')=zab ρ l c+zab ρ l' c':=by
  show zab ρ (zdP l l') (c|||c')=_;rw [zc4];have e:zab ρ l' c'=(zab ρ l' c'/2^width l c)<<<width l c:=by
   rw [Nat.shiftLeft_eq];have:=Nat.div_add_mod (zab ρ l' c') (2^width l c);rw [hmod] at this;rw [Nat.mul_comm];omega
  rw [e,Nat.or_comm,←Nat.shiftLeft_add_eq_or_of_lt hlt,Nat.add_comm]
 have hw:zab ρ (zdP l l') (Nat.lor c c')<2^wOf k:=by
  show zab ρ (zdP l l') (c|||c')<_;rw [zc4];exact Nat.or_lt_two_pow (zbw g1) (zbw g2)
 show _=k.wrap (Int.ofNat (zab ρ l c)+Int.ofNat (zab ρ l' c'));rw [show (Int.ofNat (zab ρ l c)+Int.ofNat (zab ρ l' c'):Int)=Int.ofNat (zab ρ l c+zab ρ l' c') from rfl,←hsum,wrap_small hw]
theorem zsn (k:IntKind) {a b:SE} {l:List Fld} {c n:Nat} (ha:a.den ρ=Int.ofNat (zab ρ l c)) (hb:b.den ρ=Int.ofNat n):(sQuo k a b l c n).den ρ=zcq .quo k (a.den ρ) (b.den ρ):=by
 unfold sQuo;split
 case h_2=>rfl
 rename_i h1 h2;have h2:n=2^Nat.log2 n:=zaj h2;rw [zcK,ha,hb];show Int.ofNat (zab ρ (zf6 (Nat.log2 n) l) (c/2^Nat.log2 n))=k.wrap ((Int.ofNat (zab ρ l c)).tdiv (Int.ofNat n));rw [zgH,←h2];show _=k.wrap (Int.ofNat (zab ρ l c/n));rw [wrap_small (Nat.lt_of_le_of_lt (Nat.div_le_self _ _) (zbw h1))]
theorem zsm (k:IntKind) {a b:SE} {l:List Fld} {c n:Nat} (ha:a.den ρ=Int.ofNat (zab ρ l c)) (hb:b.den ρ=Int.ofNat n):(sRem k a b l c n).den ρ=zcq .rem k (a.den ρ) (b.den ρ):=by
 unfold sRem;split
 case h_2=>rfl
 rename_i h2;have h2:n=2^Nat.log2 n:=zaj h2;rw [zcK,ha,hb];show Int.ofNat (zab ρ (zcQ (Nat.log2 n) l) (c%2^Nat.log2 n))=(Int.ofNat (zab ρ l c)).tmod (Int.ofNat n);rw [zd0,←h2];rfl
theorem zcx (o:BinOp) (k:IntKind) (a b:SE):(sBin o k a b).den ρ=zcq o k (a.den ρ) (b.den ρ):=by
 unfold sBin;split
 case h_2=>rfl
 rename_i l c l' c' ha hb;have ha:=zpx (ρ:=ρ) ha;have hb:=zpx (ρ:=ρ) hb;split
 ·exact zuW k ha hb
 ·split
  ·exact zmY k ha hb
  ·split
   ·have ha:a.den ρ=Int.ofNat c:=ha;rw [zmY k hb ha];rw [ha,hb];show zct .and k _ _=zct .and k _ _;simp only [zct,BitVec.and_comm]
   ·rfl
 ·split
  ·exact zlx k ha hb
  ·rfl
 ·split
  ·exact zsl k ha hb
  ·rfl
 ·split
  ·exact zsk k ha hb
  ·rfl
 ·exact zsq k ha hb
 ·split
  ·exact zsn k ha hb
  ·rfl
 ·split
  ·exact zsm k ha hb
  ·rfl
 ·exact zuX (.inr rfl) k ha hb
 ·rfl
theorem zpW (o:BinOp) (a b:SE):(zuY o a b).den ρ=zem o (a.den ρ) (b.den ρ):=by
  unfold zuY;split
  case h_2=>rfl
  rename_i p q r s ha hb;obtain ⟨x,ex,h1,h2⟩:=zeE (ρ:=ρ) ha;obtain ⟨y,ey,h3,h4⟩:=zeE (ρ:=ρ) hb;have blt: ∀ {u v:Nat},Nat.blt u v=true→u<v:=fun h=>by rw [Nat.blt_eq] at h;exact h
  split
  · split
    · rfl
    · rename_i hne;have hxy:x≠y:=fun e=>by
        subst e;refine hne ?_ ?_
        · cases h:Nat.blt q r with
          | false=>rfl
          | true=>have:=blt h;omega
        · cases h:Nat.blt s p with
          | false=>rfl
          | true=>have:=blt h;omega
      simp [SB.den,zem,ex,ey];omega
  · split
    · rfl
    · rename_i hne;have hxy:x≠y:=fun e=>by
        subst e;refine hne ?_ ?_
        · cases h:Nat.blt q r with
          | false=>rfl
          | true=>have:=blt h;omega
        · cases h:Nat.blt s p with
          | false=>rfl
          | true=>have:=blt h;omega
      simp [SB.den,zem,ex,ey];omega
  all_goals
    first
      | rfl
      | (split
         · rename_i h
           first|have:=blt h|have:=Nat.le_of_ble_eq_true h
           simp [SB.den,zem,ex,ey];omega
         · rename_i h _
           first|have:=blt h|have:=Nat.le_of_ble_eq_true h
           simp [SB.den,zem,ex,ey];omega
         · rfl)
theorem zsp (o:BinOp) (a b:SE):(sCmp o a b).den ρ=zem o (a.den ρ) (b.den ρ):=by
 unfold sCmp;split
 ·rename_i h;rw [SE.beq_eq h];cases o<;>simp [SB.den,zpP,zem]
 ·exact zpW o a b
theorem zlu {x y:SE} {b:Bool} (h:zlv x y=some b):(x.den ρ==y.den ρ)=b:=by
 unfold zlv at h;split at h
 ·cases h;rw [zt8];rfl
 ·split at h
  ·rename_i hb;cases h;rw [SE.beq_eq hb];simp
  ·split at h
   case h_2=>cases h
   rename_i p q r s hx hy;obtain ⟨u,eu,h1,h2⟩:=zeE (ρ:=ρ) hx;obtain ⟨v,ev,h3,h4⟩:=zeE (ρ:=ρ) hy;split at h
   ·cases h
   ·rename_i hne;cases h;rw [eu,ev];have:u≠v:=fun e=>by
     subst e;refine hne ?_ ?_
     ·cases e:Nat.blt q r with
      | false=>rfl
      | true=>rw [Nat.blt_eq] at e;omega
     ·cases e:Nat.blt s p with
      | false=>rfl
      | true=>rw [Nat.blt_eq] at e;omega
    simp;omega
end
end Go.Dw
end
