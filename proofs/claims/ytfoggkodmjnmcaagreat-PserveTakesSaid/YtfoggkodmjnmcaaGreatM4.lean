/-
  Proved: laws on the way to 'PserveTakesProof' (texts DwOrc Orc WkU XaB DwArgs DwVal SvJ SvK XaC XaD XaE XaF0 XaF XaG XaH XaI XaJ XaK XaL XaM0 XaM XaN XaO XaP XcA XcB XcC XcD XcE XaR XaS0 XaS XaT XaU XaV XaW XaX XaY XaZ XbA XbB XcF XbC XbD XbH XcG XcH PsI PsJ PsK0 PsK PsL PsM PsF PsN PsO PsP0 PsP PsQ PsR0 PsR); no condition.
-/
import Derived.Test.YtfoggkodmjnmcaaGreatM3
import Derived.Shelf.SlIterI.Nil
import Derived.Shelf.SlIterI.Sorted
import Derived.Lib.SlKeysI
import Derived.Test.YtfoggkodmjnmcaaGreatProg
import Derived.Shelf.SortM.Plain
import Derived.Shelf.SortM.SortNone
import Derived.KernelRfl
import Derived.Carry
import Derived.OpenShut
import Derived.ProofKit
set_option linter.unusedSimpArgs false
set_option linter.unusedVariables false
set_option maxHeartbeats 4000000
noncomputable section
namespace Go.Dw
def memN (n:Nat):List Nat→Bool
 | [] => false
 | m::l=>match Nat.beq n m with|true=>true|false=>memN n l
abbrev KE:=SE×Nat×Nat
def zko:List ME→Option (List KE)
 | [] => some []
 | e::l=>match e.key with
  | .int .i64 x=>(match bnd x with
   | some (p,q)=>(match Nat.blt q 9223372036854775808,zko l with
    | true,some m=>some ((x,p,q)::m)
    | _,_=>none)
   | none=>none)
  | _=>none
def insK (n:KE):List KE→Option (List KE)
 | [] => some [n]
 | m::l=>match Nat.blt n.2.2 m.2.1 with
  | true=>some (n::m::l)
  | false=>match Nat.blt m.2.2 n.2.1 with
   | true=>(match insK n l with|some k=>some (m::k)|none=>none)
   | false=>none
def zsb:List KE→Option (List KE)
 | [] => some []
 | n::l=>match zsb l with|some m=>insK n m|none=>none
def insN (n:Nat):List Nat→Option (List Nat)
 | [] => some [n]
 | m::l=>match Nat.blt n m with
  | true=>some (n::m::l)
  | false=>match Nat.blt m n with
   | true=>(match insN n l with|some k=>some (m::k)|none=>none)
   | false=>none
def zwL:List Nat→Option (List Nat)
 | [] => some []
 | n::l=>match zwL l with|some m=>insN n m|none=>none
def zkM:List ME→List Nat
 | [] => []
 | e::l=>e.born::zkM l
def zEM (c:Nat):List Nat→Bool
 | [] => true
 | n::l=>match Nat.blt n c with|true=>zEM c l|false=>false
def zer:List KE→List AV
 | [] => []
 | n::l=> .int .i64 n.1::zer l
def zlr (es:List ME) (clock:Nat):Option (List KE):=
 match zko es with
 | none=>none
 | some ks=>match zwL (zkM es),zEM clock (zkM es),Nat.ble ks.length 1000000 with
  | some _,true,true=>zsb ks
  | _,_,_=>none
def zIN (H:Heap) (b:Nat):Option AV:=
 match H.m.get b with
 | some (.cells v _ g closed _ own)=>(match Nat.beq g b,alive H.gw g closed,own,Nat.ble 1 v.n with
  | true,true,true,true=>some (v.get 0)
  | _,_,_,_=>none)
 | _=>none
def zy8 (H:Heap) (l:List KE):List (AV×Heap):=
 match l with
 | [] => [(.nils,H)]
 | n::l=>match H with|⟨hm,nx,gw⟩=> [(.sl nx 0 (Nat.succ l.length) (.upto 0),Heap.alloc ⟨hm,nx,gw⟩ (zbq (zer (n::l)) 1 nx))]
def zf5 (c:FuncId) (gs:List Nat) (f:FuncId) (args:List AV) (H:Heap):Option (List (AV×Heap)):=
 match Nat.beq f c with
 | false=>none
 | true=>match args with
  | [.func g [] [.ptr b 0]]=>(match memN g gs,zIN H b with
   | true,some .nilm=>some [(.nils,H)]
   | true,some (.map m)=>(match H.mapAt m with
    | some (es,clock)=>(match zlr es clock with
     | some l=>some (zy8 H l)
     | none=>none)
    | none=>none)
   | _,_=>none)
  | _=>none
section
variable {P:Program} {ρ:Val} {w0:Cx} {j:J} {H:Heap} {w w':World}
theorem znz {n:Nat}: ∀ {l:List Nat},memN n l=true→n∈l
 | [], h=>by cases h
 | m::l,h=>by
  unfold memN at h
  split at h
  ·rename_i hb;rw [zav hb];exact List.mem_cons_self ..
  ·exact List.mem_cons_of_mem _ (znz h)
theorem Inv.behind (h:Inv ρ w0 j H w) (hb:RowKit.Below w.heap.size w w'):Inv ρ w0 j H w':=by
 have hold: ∀n L,j n=some L→L.q=none→w'.heap[L.blk]? =w.heap[L.blk]? :=fun n L e q=>hb.block _ (h.blk n L e q)
 refine ⟨h.fr.then hb.os hb.output hb.tape hb.size (fun i hi _=>hb.block i hi),h.dom,fun n L e q=>Nat.lt_of_lt_of_le (h.blk n L e q) hb.size,h.used,fun n L e=> ?_,h.sep,h.tim,h.gwt,h.grp,fun n L e q hn c t fr he=> ?_,h.off0,h.n0,h.nx0,h.z0,h.gho' (Sub.refl j) hb.size (fun b hb' _=>hb.block b hb') (fun b hb'=>Or.inl hb')⟩
 ·obtain ⟨o,h1,h2⟩:=h.obj n L e
  exact ⟨o,h1,ObjR.grow (Sub.refl j) (hold n L e) h2⟩
 ·rw [hold n L e q] at he
  exact h.fz n L e q hn c t fr he
theorem Inv.adoptAt (h:Inv ρ w0 j H w) {n gb:Nat} {o:Obj} {ob:Go.Obj} {c:Nat} (hn:H.m.get n=some o) (hj:j n=none) (hnew:NewR ρ j o ob c)
  (hg: ∀v e g cl sh,o= .cells v e g cl sh true→g=n∨ ∃Lg,j g=some Lg) (hgb:w.heap[gb]? =some ob) (h0:w0.w.heap.size≤gb) (hfree: ∀k L,j k=some L→L.q=none→L.blk≠gb) (hG:w0.G H.gs (jset j n ⟨gb,0,c,none⟩) w):
  Inv ρ w0 (jset j n ⟨gb,0,c,none⟩) H w:=by
 have hsub:=zbX (L:=⟨gb,0,c,none⟩) hj
 have hback: ∀k L,jset j n ⟨gb,0,c,none⟩ k=some L→(k=n∧L=⟨gb,0,c,none⟩)∨(k≠n∧j k=some L):=fun k L e=>by
  by_cases hk:k=n
  ·subst hk;rw [za3] at e;exact .inl ⟨rfl,(Option.some.inj e).symm⟩
  ·rw [zbO _ _ hk] at e;exact .inr ⟨hk,e⟩
 have hown:w0.own gb:=Or.inl h0
 refine ⟨h.fr,fun k L e=> ?_,fun k L e q=> ?_,h.used,fun k L e=> ?_,fun k m Lk Lm hkm e1 e2 q1 q2 hb=> ?_,h.tim,h.gwt,fun k L v e g cl sh e1 e2=> ?_,fun k L hjk hqk hi cs e fr he=> ?_,fun k L v e cl sh e1 e2=>(hback k L e1).elim (fun x=>x.2▸rfl) (fun x=>h.off0 k L v e cl sh x.2 e2),?_,h.nx0,h.z0,hG⟩
 ·rcases hback k L e with ⟨rfl,_⟩|⟨_,e⟩
  ·exact h.used _ _ hn
  ·exact h.dom k L e
 ·rcases hback k L e with ⟨_,rfl⟩|⟨_,e⟩
  ·exact (Array.getElem?_eq_some_iff.1 hgb).1
  ·exact h.blk k L e q
 ·rcases hback k L e with ⟨rfl,rfl⟩|⟨_,e⟩
  ·refine ⟨o,hn,?_⟩
   cases o with
   | cells v esz g cl sh own=>
    obtain ⟨ho,_,arr,e',rfl,h1,h2,h3⟩:=hnew
    refine ⟨rfl,by rw [if_pos ho];exact hown,fun _=>⟨arr,e',(0,0),hgb,by simpa using h1,⟨by simpa using h2.1,h2.2⟩,fun i hi=> ?_⟩⟩
    obtain ⟨x,h4,h5⟩:=h3 i hi
    exact ⟨x,by simpa using h4,h5.mono hsub⟩
   | map es clock=>
    obtain ⟨_,arr,rfl,h1⟩:=hnew
    exact ⟨rfl,hown,rfl,arr,hgb,h1.mono hsub⟩
   | iter m since seen stepped=>
    obtain ⟨_,m',sa,rfl,h1,h2⟩:=hnew
    refine ⟨rfl,hown,rfl,m',sa,hgb,h1,?_⟩
    cases m with
    | none=>exact h2
    | some n=>obtain ⟨Lm,e,x⟩:=h2;exact ⟨Lm,hsub _ _ e,x⟩
   | mapu es=>
    obtain ⟨_,arr,clock,es',rfl,h1,h2⟩:=hnew
    exact ⟨rfl,hown,rfl,arr,clock,es',hgb,h1,h2.mono hsub⟩
   | mapx=>exact hnew.elim
   | opq=>exact hnew.elim
   | gs=>exact hnew.elim
  ·obtain ⟨o',h1,h2⟩:=h.obj k L e
   exact ⟨o',h1,ObjR.grow hsub (fun _=>rfl) h2⟩
 ·rcases hback k Lk e1 with ⟨rfl,rfl⟩|⟨_,e1⟩<;>rcases hback m Lm e2 with ⟨rfl,rfl⟩|⟨_,e2⟩
  ·exact absurd rfl hkm
  ·rename_i e2;exact absurd hb.symm (hfree m Lm e2 q2)
  ·rename_i e1 _;exact absurd hb (hfree k Lk (by assumption) q1)
  ·exact h.sep k m Lk Lm hkm (by assumption) (by assumption) q1 q2 hb
 ·rcases hback k L e1 with ⟨rfl,rfl⟩|⟨_,e1⟩
  ·rw [hn] at e2
   rcases hg _ _ _ _ _ (Option.some.inj e2) with rfl|⟨Lg,e3⟩
   ·exact ⟨_,za3 _ _ _⟩
   ·exact ⟨Lg,hsub _ _ e3⟩
  ·obtain ⟨Lg,e3⟩:=h.grp k L v e g cl sh e1 e2
   exact ⟨Lg,hsub _ _ e3⟩
 ·rcases hback k L hjk with ⟨rfl,rfl⟩|⟨_,hjk⟩
  ·rw [hgb] at he
   cases o with
   | cells v esz g cl sh own=>
    obtain ⟨_,_,arr,e',rfl,_⟩:=hnew
    cases he;rfl
   | map es clock=>obtain ⟨_,arr,rfl,_⟩:=hnew;cases he
   | iter m since seen stepped=>obtain ⟨_,m',sa,rfl,_⟩:=hnew;cases he
   | mapu es=>obtain ⟨_,arr,clock,es',rfl,_⟩:=hnew;cases he
   | mapx=>exact hnew.elim
   | opq=>exact hnew.elim
   | gs=>exact hnew.elim
  ·exact h.fz k L hjk hqk hi cs e fr he
 ·by_cases hk:0=n
  ·rw [←hk] at hn
   obtain ⟨kk,rfl⟩:=h.z0 _ hn
   exact hnew.elim
  ·rw [zbO _ _ hk];exact h.n0
theorem Inv.ghoAt (h:Inv ρ w0 j H w) (hb:RowKit.Below w.heap.size w w') {n gb c:Nat} (hj:j n=none) (hgb:w.heap.size≤gb):w0.G H.gs (jset j n ⟨gb,0,c,none⟩) w':=
 h.gho' (zbX hj) hb.size (fun b hb' _=>hb.block b hb') (fun b hm=>by
  obtain ⟨k,L,e,q,rfl⟩:=hm
  by_cases hk:k=n
  ·subst hk;rw [za3] at e;cases e;exact Or.inr hgb
  ·rw [zbO _ _ hk] at e;exact Or.inl ⟨k,L,e,q,rfl⟩)
structure zF6 (P:Program) (f:FuncId):Prop where
 enters:Enters P f
 runs: ∀w,Calls P f #[] w fun e w'=>e= .returned (.bool true)∧RowKit.Below w.heap.size w w'
def zoY:World:=default
theorem zwQ {P:Program} (hmo:P.follows .mixedOrders=true) {orc:FuncId→List AV→Heap→Option (List (AV×Heap))} (hor: ∀w,zfY P Val.zero (Cx.plain w) orc) {n:Nat} {f:FuncId} (h:(ev P orc n (.call f [] heap0 isTrue)).good=true):zF6 P f:=
  ⟨((znU (ρ:=Val.zero) (w0:=Cx.plain zoY) (hor zoY) (fun n rec hg=>zma hmo hg) n).call f [] heap0 isTrue (Ob.den_of_good h)).1,
   fun w=>zyb (ρ:=Val.zero) hmo (hor w) (inv0 w) RL.nil (Ob.den_of_good h)⟩
structure zwu (P:Program) (c g:FuncId):Prop where
 enters:Enters P c
 sorted: ∀(w:World) (Bm b:Nat) (es:Array MapEntry) (clock:Nat) (ks:List Int),Bm<w.heap.size→w.cell? ⟨Bm,0,none⟩=some (.map (some b))→w.heap[b]? =some (.map es clock)→MapKept.Stamped es clock→
  es.toList.map (·.key)=ks.map encZ→(∀x∈ks,(Lit.int .i64 x).wf=true)→ks.length≤1000000→
  Calls P c #[.func (.func g) #[] #[.pointer (some ⟨Bm,0,none⟩)]] w fun e w'=> ∃v ss t,e= .returned v∧ss.Perm ks∧w'.ownsRow w.heap.size t 1 v ss.length ((ss.mergeSort leI).map encZ)∧(v= .slice none 0 0↔ss= [])∧RowKit.Below w.heap.size w w'
 nil: ∀(w:World) (Bm:Nat),Bm<w.heap.size→w.cell? ⟨Bm,0,none⟩=some (.map none)→
  Calls P c #[.func (.func g) #[] #[.pointer (some ⟨Bm,0,none⟩)]] w fun e w'=>e= .returned (.slice none 0 0)∧RowKit.Below w.heap.size w w'
def denK (ρ:Val) (n:KE):Int:=n.1.den ρ
def okK (ρ:Val) (n:KE):Prop:= ∃x:Nat,denK ρ n=Int.ofNat x∧n.2.1≤x∧x≤n.2.2∧n.2.2<9223372036854775808
theorem zmE: ∀ {es:List ME} {ks:List KE} {xs:List MapEntry},zko es=some ks→RM ρ j es xs→xs.map (·.key)=(ks.map (denK ρ)).map encZ∧(∀n∈ks,okK ρ n)
 | [], ks,xs,h,hr=>by
  have e:xs= []:=hr
  subst e
  unfold zko at h;cases h
  exact ⟨rfl,by simp⟩
 | e::es,ks,xs,h,hr=>by
  obtain ⟨x,xs,rfl,hk,_,_,hr⟩:=hr
  unfold zko at h
  split at h
  case h_2=>cases h
  rename_i n hkey
  split at h
  case h_2=>cases h
  rename_i p q hb
  split at h
  case h_2=>cases h
  rename_i m hlt hm
  cases h
  obtain ⟨h1,h2⟩:=zmE hm hr
  rw [hkey] at hk
  have hk:x.key= .int .i64 (n.den ρ):=hk
  rw [Nat.blt_eq] at hlt
  obtain ⟨y,e1,e2,e3⟩:=zeR (ρ:=ρ) hb
  refine ⟨by simp only [List.map_cons,h1,hk];rfl,fun z hz=> ?_⟩
  rcases List.mem_cons.1 hz with rfl|hz
  ·exact ⟨y,e1,e2,e3,hlt⟩
  ·exact h2 z hz
theorem zJO {n:KE} (h:okK ρ n):(Lit.int .i64 (denK ρ n)).wf=true:=by
 obtain ⟨x,e,_,h2,h3⟩:=h
 rw [e]
 simp [Lit.wf,IntKind.min,IntKind.max,IntKind.signed,IntKind.bits]
 omega
theorem zm5: ∀ {es:List ME} {xs:List MapEntry},RM ρ j es xs→xs.map (·.born)=zkM es
 | [], xs,hr=>by have e:xs= []:=hr;subst e;rfl
 | e::es,xs,hr=>by
  obtain ⟨x,xs,rfl,_,_,hb,hr⟩:=hr
  simp only [List.map_cons,zkM,zm5 hr,hb]
theorem zwt {c:Nat}: ∀ {l:List Nat},zEM c l=true→ ∀x∈l,x<c
 | [], _,x,hx=>by cases hx
 | n::l,h,x,hx=>by
  unfold zEM at h
  split at h
  ·rename_i hb
   rw [Nat.blt_eq] at hb
   rcases List.mem_cons.1 hx with rfl|hx
   ·exact hb
   ·exact zwt h x hx
  ·cases h
theorem zrd {n:Nat}: ∀ {l m:List Nat},insN n l=some m→l.Pairwise (· < ·)→m.Pairwise (· < ·)∧m.Perm (n::l)
 | [], m,h,_=>by unfold insN at h;cases h;exact ⟨List.pairwise_singleton _ _,List.Perm.refl _⟩
 | x::l,m,h,hl=>by
  unfold insN at h
  obtain ⟨h1,h2⟩:=List.pairwise_cons.1 hl
  split at h
  ·rename_i hb
   rw [Nat.blt_eq] at hb
   cases h
   refine ⟨List.pairwise_cons.2 ⟨fun y hy=> ?_,hl⟩,List.Perm.refl _⟩
   rcases List.mem_cons.1 hy with rfl|hy
   ·exact hb
   ·have:=h1 y hy;omega
  ·split at h
   ·rename_i hb
    rw [Nat.blt_eq] at hb
    split at h
    ·rename_i k hk
     cases h
     obtain ⟨h3,h4⟩:=zrd hk h2
     refine ⟨List.pairwise_cons.2 ⟨fun y hy=> ?_,h3⟩,(List.Perm.cons x h4).trans (List.Perm.swap n x l)⟩
     rcases List.mem_cons.1 (h4.mem_iff.1 hy) with rfl|hy
     ·exact hb
     ·exact h1 y hy
    ·cases h
   ·cases h
theorem zls: ∀ {l m:List Nat},zwL l=some m→m.Pairwise (· < ·)∧m.Perm l
 | [], m,h=>by unfold zwL at h;cases h;exact ⟨List.Pairwise.nil,List.Perm.refl _⟩
 | n::l,m,h=>by
  unfold zwL at h
  split at h
  ·rename_i k hk
   obtain ⟨h1,h2⟩:=zls hk
   obtain ⟨h3,h4⟩:=zrd h h1
   exact ⟨h3,h4.trans (List.Perm.cons n h2)⟩
  ·cases h
theorem zr8 {l m:List Nat} (h:zwL l=some m):l.Nodup:=by
 obtain ⟨h1,h2⟩:=zls h
 exact (h2.nodup_iff).1 (h1.imp fun hlt=>by omega)
theorem zre {n:KE} (hn:okK ρ n): ∀ {l m:List KE},insK n l=some m→(∀k∈l,okK ρ k)→(l.map (denK ρ)).Pairwise (· < ·)→(m.map (denK ρ)).Pairwise (· < ·)∧m.Perm (n::l)
 | [], m,h,_,_=>by unfold insK at h;cases h;exact ⟨List.pairwise_singleton _ _,List.Perm.refl _⟩
 | x::l,m,h,hk,hl=>by
  unfold insK at h
  obtain ⟨h1,h2⟩:=List.pairwise_cons.1 (show (denK ρ x::l.map (denK ρ)).Pairwise (· < ·) from hl)
  obtain ⟨a,ea,a1,a2,_⟩:=hn
  obtain ⟨b,eb,b1,b2,_⟩:=hk x (List.mem_cons_self ..)
  have hk': ∀k∈l,okK ρ k:=fun k h=>hk k (List.mem_cons_of_mem _ h)
  split at h
  ·rename_i hb
   rw [Nat.blt_eq] at hb
   cases h
   have hlt:denK ρ n<denK ρ x:=by rw [ea,eb];exact Int.ofNat_lt.2 (by omega)
   refine ⟨List.pairwise_cons.2 ⟨fun y hy=> ?_,hl⟩,List.Perm.refl _⟩
   rcases List.mem_cons.1 hy with rfl|hy
   ·exact hlt
   ·exact Int.lt_trans hlt (h1 y hy)
  ·split at h
   ·rename_i hb
    rw [Nat.blt_eq] at hb
    split at h
    ·rename_i k hkk
     cases h
     obtain ⟨h3,h4⟩:=zre ⟨a,ea,a1,a2,by assumption⟩ hkk hk' h2
     have hlt:denK ρ x<denK ρ n:=by rw [ea,eb];exact Int.ofNat_lt.2 (by omega)
     refine ⟨List.pairwise_cons.2 ⟨fun y hy=> ?_,h3⟩,(List.Perm.cons x h4).trans (List.Perm.swap n x l)⟩
     rcases List.mem_cons.1 ((h4.map (denK ρ)).mem_iff.1 hy) with rfl|hy
     ·exact hlt
     ·exact h1 y hy
    ·cases h
   ·cases h
theorem zeY: ∀ {l m:List KE},zsb l=some m→(∀k∈l,okK ρ k)→(m.map (denK ρ)).Pairwise (· < ·)∧m.Perm l
 | [], m,h,_=>by unfold zsb at h;cases h;exact ⟨List.Pairwise.nil,List.Perm.refl _⟩
 | n::l,m,h,hk=>by
  unfold zsb at h
  split at h
  ·rename_i k hkk
   obtain ⟨h1,h2⟩:=zeY hkk (fun x hx=>hk x (List.mem_cons_of_mem _ hx))
   obtain ⟨h3,h4⟩:=zre (hk n (List.mem_cons_self ..)) h (fun x hx=>hk x (List.mem_cons_of_mem _ (h2.mem_iff.1 hx))) h1
   exact ⟨h3,h4.trans (List.Perm.cons n h2)⟩
  ·cases h
theorem zsa {l m:List KE} (h:zsb l=some m) (hk: ∀k∈l,okK ρ k):(l.map (denK ρ)).Nodup:=by
 obtain ⟨h1,h2⟩:=zeY (ρ:=ρ) h hk
 exact ((h2.map (denK ρ)).nodup_iff).1 (h1.imp fun hlt=>by omega)
theorem zr9 {l m:List KE} (h:zsb l=some m) (hk: ∀k∈l,okK ρ k) {ss:List Int} (hp:ss.Perm (l.map (denK ρ))):ss.mergeSort leI=m.map (denK ρ):=by
 obtain ⟨h1,h2⟩:=zeY (ρ:=ρ) h hk
 have tr: ∀a b c:Int,leI a b=true→leI b c=true→leI a c=true:=fun a b c h1 h2=>by simp only [leI,decide_eq_true_eq] at*;exact Int.le_trans h1 h2
 have tot: ∀a b:Int,(leI a b||leI b a)=true:=fun a b=>by simp only [leI,Bool.or_eq_true,decide_eq_true_eq];exact Int.le_total a b
 refine List.Perm.eq_of_pairwise (le:=fun a b=>leI a b=true) (fun a b _ _ h1 h2=> ?_) (List.pairwise_mergeSort tr tot ss) ?_ (((List.mergeSort_perm ss leI).trans hp).trans (h2.map (denK ρ)).symm)
 ·simp only [leI,decide_eq_true_eq] at h1 h2
  exact Int.le_antisymm h1 h2
 ·refine h1.imp fun hlt=> ?_
  simp only [leI,decide_eq_true_eq]
  exact Int.le_of_lt hlt
theorem zvC: ∀(l:List KE),RL ρ j (zer l) ((l.map (denK ρ)).map encZ)
 | [] => rfl
 | n::l=>⟨_,_,rfl,rfl,zvC l⟩
theorem zgv: ∀(l:List KE),(zer l).length=l.length
 | [] => rfl
 | n::l=>by simp [zer,zgv l]
theorem zxB {k:TypeId} (hk:P.underlying k=some (.int .i64)) {b:Nat} {es:Array MapEntry} {clock:Nat} {ks:List Int} (hb:w.heap[b]? =some (.map es clock)) (hst:MapKept.Stamped es clock)
  (hkeys:es.toList.map (·.key)=ks.map encZ) (hwf: ∀x∈ks,(Lit.int .i64 x).wf=true) (hlen:ks.length≤1000000):
  ∃ D0:DataW Unit,w.ownsMap P k (fun _=>some (.nil,[])) b es.size D0∧(intKeys D0).Perm ks∧Maps.size D0=ks.length:=by
 have hl:es.toList.length=ks.length:=by have:=congrArg List.length hkeys;simpa using this
 have hkey: ∀x∈es.toList,∃a,x.key=encZ a∧(Lit.int .i64 a).wf=true:=fun x hx=>by
  have:x.key∈ks.map encZ:=by rw [←hkeys];exact List.mem_map_of_mem hx
  obtain ⟨a,ha,e⟩:=List.mem_map.1 this
  exact ⟨a,e.symm,hwf a ha⟩
 have hrd: ∀x∈es.toList,∀a,x.key=encZ a→(Lit.int .i64 a).wf=true→WideElems.rd P k (fun _=>some ((.nil:DataW Unit),[])) x=some (.int .i64 a,.nil):=fun x _ a e hw=>by
  unfold WideElems.rd
  rw [e,Maps.keyOf_int_mk hk hw]
  rfl
 refine ⟨_,⟨es,clock,hb,⟨?_,hst,fun x hx=> ?_⟩,Nat.le_refl _,rfl⟩,?_,?_⟩
 ·rw [←Array.length_toList,hl]
  unfold maxLen
  omega
 ·obtain ⟨a,e,hw⟩:=hkey x hx
  exact ⟨_,hrd x hx a e hw⟩
 ·have e:(es.toList.map (WideElems.rg P k (fun _=>some ((.nil:DataW Unit),[])))).map (fun p=>Go.intOf p.1)=ks:=by
   have unz: ∀l:List Int,(l.map encZ).map RowKit.intOf=l:=fun l=>by
    rw [List.map_map]
    conv=>rhs;rw [←List.map_id l]
    rfl
   rw [←unz ks,←hkeys,List.map_map,List.map_map]
   refine List.map_congr_left fun x hx=> ?_
   obtain ⟨a,e,hw⟩:=hkey x hx
   simp only [Function.comp_apply,WideElems.rg,hrd x hx a e hw,Option.getD_some,e]
   rfl
  have h:=(WideShapes.sorted_perm (es.toList.map (WideElems.rg P k (fun _=>some ((.nil:DataW Unit),[]))))).map (fun p=>Go.intOf p.1)
  rw [e] at h
  exact h
 ·show List.length _=_
  rw [(WideShapes.sorted_perm _).length_eq,List.length_map,hl]
theorem zoX {c:FuncId} {gs:List Nat} (h: ∀g∈gs,zwu P c g):zfY P ρ w0 (zf5 c gs):=by
 intro f args H l hl
 unfold zf5 at hl
 split at hl
 ·cases hl
 rename_i hfc
 have hfc:=zav hfc
 subst hfc
 split at hl
 case h_2=>cases hl
 rename_i g b
 have start: ∀ {k:K} {j:J} {w:World} {vals:List Value} {x:AV},Inv ρ w0 j H w→RL ρ j [.func g [] [.ptr b 0]] vals→zIN H b=some x→
   ∃ L u,j b=some L∧vals= [.func (.func g) #[] #[.pointer (some ⟨L.blk,0,none⟩)]]∧L.blk<w.heap.size∧w.cell? ⟨L.blk,0,none⟩=some u∧R ρ j x u:=by
  intro k j w vals x hi hv hbox
  obtain ⟨u,m,rfl,hu,hm⟩:=hv
  have e:m= []:=hm
  subst e
  obtain ⟨l',m',rfl,hl',hm'⟩:=hu
  have e:l'= []:=hl'
  subst e
  obtain ⟨p,m2,rfl,hp,hm2⟩:=hm'
  have e:m2= []:=hm2
  subst e
  obtain ⟨L,hj,rfl⟩:=hp
  unfold zIN at hbox
  split at hbox
  case h_2=>cases hbox
  rename_i v esz g' closed sh own hget
  split at hbox
  case h_2=>cases hbox
  rename_i hg hal hone
  cases hbox
  have hg:=zav hg
  subst hg
  have hoff:=hi.off0 _ L v esz closed sh hj hget
  obtain ⟨o,h1,h2⟩:=hi.obj _ L hj
  rw [hget] at h1;cases h1
  obtain ⟨arr,e,fr,h3,_,_,h5⟩:=h2.2.2 hal
  obtain ⟨y,h6,h7⟩:=h5 0 (Nat.le_of_ble_eq_true hone)
  rw [hoff] at h6
  refine ⟨L,y,hj,by rw [hoff],(Array.getElem?_eq_some_iff.1 h3).1,?_,h7⟩
  simp [World.cell?,h3]
  simpa using h6
 split at hl
 ·rename_i hm hbox
  cases hl
  have ho:=h g (znz hm)
  refine ⟨ho.enters,fun k hk j w vals hi hv=> ?_⟩
  obtain ⟨L,u,hj,rfl,hlt,hcell,hu⟩:=start (k:=k) hi hv hbox
  have e:u= .map none:=hu
  subst e
  refine Calls.mono (ho.nil w L.blk hlt hcell) fun e w' ⟨he,hb⟩=>⟨_,he,.nils,H,j,rfl,hi.behind hb,St.refl j H,hk⟩
 ·rename_i m hm hbox
  have ho:=h g (znz hm)
  split at hl
  case h_2=>cases hl
  rename_i es clock hmap
  split at hl
  case h_2=>cases hl
  rename_i ls hsorted
  cases hl
  refine ⟨ho.enters,fun k hk j w vals hi hv=> ?_⟩
  obtain ⟨L,u,hj,rfl,hlt,hcell,hu⟩:=start (k:=k) hi hv hbox
  obtain ⟨Lm,hjm,rfl⟩:=hu
  obtain ⟨arr,harr,hrm⟩:=hi.mapAt hjm hmap
  unfold zlr at hsorted
  split at hsorted
  ·cases hsorted
  rename_i ks hks
  split at hsorted
  case h_2=>cases hsorted
  rename_i bs hbs hall hlen
  obtain ⟨hkeys,hok⟩:=zmE hks hrm
  have hwf: ∀x∈ks.map (denK ρ),(Lit.int .i64 x).wf=true:=fun x hx=>by
   obtain ⟨k,hk,rfl⟩:=List.mem_map.1 hx
   exact zJO (hok k hk)
  have hborn:=zm5 hrm
  have hnd:=zsa (ρ:=ρ) hsorted hok
  have hst:MapKept.Stamped arr clock:=by
   refine ⟨fun x hx=>zwt hall _ (by rw [←hborn];exact List.mem_map_of_mem hx),by rw [hborn];exact zr8 hbs,?_⟩
   rw [hkeys]
   exact List.pairwise_map.2 (hnd.imp fun hne e=>hne (encZ_inj e))
  refine Calls.mono (ho.sorted w L.blk Lm.blk arr clock (ks.map (denK ρ)) hlt hcell harr hst hkeys hwf (by simpa using Nat.le_of_ble_eq_true hlen)) fun e w' ⟨v,ss,t,he,hperm,hrow,hnil,hb⟩=> ?_
  refine ⟨v,he,?_⟩
  have hsort:=zr9 (ρ:=ρ) hsorted hok hperm
  have hsslen:ss.length=ls.length:=by rw [hperm.length_eq,List.length_map,(zeY (ρ:=ρ) hsorted hok).2.length_eq]
  rw [hsort,hsslen] at hrow
  have hi':=hi.behind hb
  cases ls with
  | nil=>
   have e:v= .slice none 0 0:=hnil.2 (List.eq_nil_of_length_eq_zero (by rw [hsslen];rfl))
   subst e
   exact ⟨.nils,H,j,rfl,hi',St.refl j H,hk⟩
  | cons n l=>
   rcases hrow.2 with ⟨_,h0⟩|⟨gb,cap,cur,rfl,hbase,hgb,r1,r2,r3,r4⟩
   ·simp at h0
   have hk:Ob.den ρ (k (.sl H.nx 0 (Nat.succ l.length) (.upto 0)) (H.alloc (zbq (zer (n::l)) 1 H.nx))):=hk
   have hj0:j H.nx=none:=hi.fresh
   have hlenN:(zer (n::l)).length=l.length+1:=by rw [zgv];rfl
   simp only [List.length_cons,Nat.mul_one] at r1 r3 r4
   have hext:Inv ρ w0 j (H.alloc (zbq (zer (n::l)) 1 H.nx)) w':=hi'.extend _ (fun v e g t sh ow hob=>by unfold zbq at hob;cases hob)
   have hget:(H.alloc (zbq (zer (n::l)) 1 H.nx)).m.get H.nx=some (zbq (zer (n::l)) 1 H.nx):=by rw [Heap.alloc_eq];exact T.get_set_same _ _ _
   have hnew:NewR ρ j (zbq (zer (n::l)) 1 H.nx) (.cells cur t (0,0)) cap:=by
    refine ⟨rfl,rfl,cur,t,rfl,by rw [Vec.n_ofList,hlenN];omega,⟨by omega,fun _=>by rw [Vec.n_ofList,hlenN];omega⟩,fun i hin=> ?_⟩
    rw [Vec.n_ofList] at hin
    rw [Vec.get_ofList _ i hin]
    obtain ⟨x,h1,h2⟩:=(zvC (ρ:=ρ) (j:=j) (n::l)).get i _ (List.getElem?_eq_getElem hin)
    refine ⟨x,?_,h2⟩
    rw [←r4,List.getElem?_take_of_lt (by omega)] at h1
    simpa using h1
   refine ⟨.sl H.nx 0 (Nat.succ l.length) (.upto 0),_,jset j H.nx ⟨gb,0,cap,none⟩,⟨_,za3 _ _ _,⟨by show 0+(l.length+1)≤cap;omega,by show 0<cap;omega⟩,rfl⟩,
    hext.adoptAt hget hj0 hnew (fun v e g cl sh hob=>by unfold zbq at hob;cases hob;exact .inl rfl) hgb (Nat.le_trans hi.fr.size hbase) (fun q Lq e hqq he=>by have:=hi.blk q Lq e hqq;omega) (by rw [show (H.alloc (zbq (zer (n::l)) 1 H.nx)).gs=H.gs from by rw [Heap.alloc_eq];exact zrj H _ (by have:=hi.nx0;omega)];exact hi.ghoAt hb hj0 hbase),
    ⟨zbX hj0,fun q Lq e e0=> ?_,(St.extend hi' _).keep,(St.extend hi' _).nx⟩,hk⟩
   by_cases hq:q=H.nx
   ·omega
   ·rw [zbO _ _ hq,e0] at e;cases e
 ·cases hl
end
end Go.Dw
namespace Go.Proofs
open Go.Shelf Go.RowKit Go.Maps Go.Sort
def Tryz.zfU:Go.Shelf.Ren:=⟨fun|7=>65|10=>90|n=>n,fun|23=>117|26=>3|3=>122|28=>131|0=>0|27=>130|33=>138|4=>4|n=>n,fun|n=>n⟩
theorem Tryz.zBo:Go.Proofs.SlLaysZI.n7 prog zfU:= {
 mixed:=by kernel_rfl
 f7:=⟨f65.name,by decide,func65.trans (congrArg some (by kernel_rfl))⟩
 f10:=⟨f90.name,by decide,func90.trans (congrArg some (by kernel_rfl))⟩
 t0:=underlying0
 a0:=isAgg0
 z0:=sizeOf0
 v0:=zeroValue0
 t4:=underlying4
 a4:=isAgg4
 z4:=sizeOf4
 v4:=zeroValue4
 t23:=underlying117
 a23:=isAgg117
 z23:=sizeOf117
 v23:=zeroValue117
 t26:=underlying3
 a26:=isAgg3
 z26:=sizeOf3
 v26:=zeroValue3
 t27:=underlying130
 a27:=isAgg130
 z27:=sizeOf130
 v27:=zeroValue130
 t28:=underlying131
 a28:=isAgg131
 z28:=sizeOf131
 v28:=zeroValue131
 t33:=underlying138
 a33:=isAgg138
 z33:=sizeOf138
 v33:=zeroValue138 }
def Tryz.ziY:Go.Shelf.Ren:=⟨fun|6=>64|8=>88|9=>89|11=>116|13=>118|12=>117|23=>150|24=>151|14=>141|15=>142|16=>143|17=>144|18=>145|19=>146|20=>147|21=>148|22=>149|25=>163|26=>164|27=>165|28=>166|29=>167|30=>168|31=>176|n=>n,fun|26=>3|28=>131|24=>37|0=>0|3=>3|37=>152|48=>41|50=>29|4=>4|40=>198|39=>197|45=>203|5=>5|9=>9|51=>215|55=>219|57=>226|58=>150|33=>138|n=>n,fun|n=>n⟩
theorem Tryz.zy9:Go.Proofs.SlLaysZI.n6 prog ziY:= {
 mixed:=by kernel_rfl
 f6:=⟨f64.name,by decide,func64.trans (congrArg some (by kernel_rfl))⟩
 f8:=⟨f88.name,by decide,func88.trans (congrArg some (by kernel_rfl))⟩
 f11:=⟨f116.name,by decide,func116.trans (congrArg some (by kernel_rfl))⟩
 t0:=underlying0
 a0:=isAgg0
 z0:=sizeOf0
 v0:=zeroValue0
 t24:=underlying37
 a24:=isAgg37
 z24:=sizeOf37
 v24:=zeroValue37
 t26:=underlying3
 a26:=isAgg3
 z26:=sizeOf3
 v26:=zeroValue3
 t28:=underlying131
 a28:=isAgg131
 z28:=sizeOf131
 v28:=zeroValue131
 i26:=by kernel_rfl }
def Tryz.zza:Go.Shelf.Ren:=⟨fun|5=>89|8=>118|7=>117|19=>150|20=>151|10=>141|11=>142|12=>143|13=>144|14=>145|15=>146|16=>147|17=>148|18=>149|30=>163|31=>164|32=>165|33=>166|34=>167|35=>168|40=>176|n=>n,fun|23=>37|25=>3|3=>3|32=>152|22=>37|0=>0|44=>41|46=>29|4=>4|36=>198|35=>197|41=>203|5=>5|9=>9|53=>215|57=>219|63=>226|64=>150|n=>n,fun|n=>n⟩
theorem Tryz.zJf:Go.Proofs.SlLaysM.n5 prog zza:= {
 mixed:=by kernel_rfl
 f5:=⟨f89.name,by decide,func89.trans (congrArg some (by kernel_rfl))⟩
 f7:=⟨f117.name,by decide,func117.trans (congrArg some (by kernel_rfl))⟩
 f8:=func118.trans (congrArg some (by kernel_rfl))
 f10:=⟨f141.name,by decide,func141.trans (congrArg some (by kernel_rfl))⟩
 f11:=⟨f142.name,by decide,func142.trans (congrArg some (by kernel_rfl))⟩
 f12:=⟨f143.name,by decide,func143.trans (congrArg some (by kernel_rfl))⟩
 f13:=⟨f144.name,by decide,func144.trans (congrArg some (by kernel_rfl))⟩
 f14:=⟨f145.name,by decide,func145.trans (congrArg some (by kernel_rfl))⟩
 f15:=⟨f146.name,by decide,func146.trans (congrArg some (by kernel_rfl))⟩
 f16:=⟨f147.name,by decide,func147.trans (congrArg some (by kernel_rfl))⟩
 f17:=⟨f148.name,by decide,func148.trans (congrArg some (by kernel_rfl))⟩
 f18:=⟨f149.name,by decide,func149.trans (congrArg some (by kernel_rfl))⟩
 f19:=func150.trans (congrArg some (by kernel_rfl))
 f20:=func151.trans (congrArg some (by kernel_rfl))
 f30:=⟨f163.name,by decide,func163.trans (congrArg some (by kernel_rfl))⟩
 f31:=func164.trans (congrArg some (by kernel_rfl))
 f32:=func165.trans (congrArg some (by kernel_rfl))
 f33:=⟨f166.name,by decide,func166.trans (congrArg some (by kernel_rfl))⟩
 f34:=⟨f167.name,by decide,func167.trans (congrArg some (by kernel_rfl))⟩
 f35:=⟨f168.name,by decide,func168.trans (congrArg some (by kernel_rfl))⟩
 f40:=⟨f176.name,by decide,func176.trans (congrArg some (by kernel_rfl))⟩
 t0:=underlying0
 a0:=isAgg0
 z0:=sizeOf0
 v0:=zeroValue0
 t3:=underlying3
 a3:=isAgg3
 z3:=sizeOf3
 v3:=zeroValue3
 t4:=underlying4
 a4:=isAgg4
 z4:=sizeOf4
 v4:=zeroValue4
 t5:=underlying5
 a5:=isAgg5
 z5:=sizeOf5
 v5:=zeroValue5
 t9:=underlying9
 a9:=isAgg9
 z9:=sizeOf9
 v9:=zeroValue9
 t22:=underlying37
 a22:=isAgg37
 z22:=sizeOf37
 v22:=zeroValue37
 t23:=underlying37
 a23:=isAgg37
 z23:=sizeOf37
 v23:=zeroValue37
 t25:=underlying3
 a25:=isAgg3
 z25:=sizeOf3
 v25:=zeroValue3
 t32:=underlying152
 a32:=isAgg152
 z32:=sizeOf152
 v32:=zeroValue152
 t35:=underlying197
 a35:=isAgg197
 z35:=sizeOf197
 v35:=zeroValue197
 t36:=underlying198
 a36:=isAgg198
 z36:=sizeOf198
 v36:=zeroValue198
 t41:=underlying203
 a41:=isAgg203
 z41:=sizeOf203
 v41:=zeroValue203
 t44:=underlying41
 a44:=isAgg41
 z44:=sizeOf41
 v44:=zeroValue41
 t46:=underlying29
 a46:=isAgg29
 z46:=sizeOf29
 v46:=zeroValue29
 t53:=underlying215
 a53:=isAgg215
 z53:=sizeOf215
 v53:=zeroValue215
 t57:=underlying219
 a57:=isAgg219
 z57:=sizeOf219
 v57:=zeroValue219
 t63:=underlying226
 a63:=isAgg226
 z63:=sizeOf226
 v63:=zeroValue226
 t64:=underlying150
 a64:=isAgg150
 z64:=sizeOf150
 v64:=zeroValue150 }
theorem Tryz.zFo (m:Nat):AnyZI.SortsIn prog ziY Fence.wide m:=
  ⟨fun blk off cap ss W hH hblk hsz=>callsIn_wide.2 (AnyM.slices_Sort_int zJf blk off cap ss W hH hblk hsz),
   fun p cap W=>callsIn_wide.2 (AnyM.slices_Sort_int_none zJf p cap W)⟩
theorem Tryz.sortedOk90:Dw.zwu prog 64 90:=
  ⟨⟨f64,_,func64,rfl,by decide⟩,
   fun w Bm b es clock ks hBm hm hb hst hkeys hwf hlen=>by
    obtain ⟨D0,hown,hperm,hsize⟩:=Dw.zxB (P:=prog) underlying3 hb hst hkeys hwf hlen
    have hseq:=AnyZI.keys_gives (ρ:=zfU) { zBo with } Fence.wide 2 trivial rfl (by omega) Bm b es.size D0 w hBm hm hown
    have cS:=AnyZI.sorted_in zy9 Fence.wide 5 trivial trivial trivial trivial rfl (by omega) (zFo _) (enters_of func89 (by kernel_rfl) rfl) 90 #[.pointer (some ⟨Bm,0,none⟩)] trivial (enters_of func90 (by kernel_rfl) rfl) _ _ (by rw [hsize];unfold maxLen;omega) (by rw [hsize];omega) _ hseq
    exact (callsIn_wide.1 cS).mono fun e w' ⟨v,ss,he,hS,hrow,hnil,hb⟩=>⟨v,ss,_,he,hS.trans hperm,hrow,hnil,hb⟩,
   fun w Bm hBm hm=>by
    have hseq:=AnyZI.keys_gives_nil (ρ:=zfU) { zBo with } Fence.wide 2 trivial rfl Bm w hBm hm
    have cS:=AnyZI.sorted_in zy9 Fence.wide 5 trivial trivial trivial trivial rfl (by omega) (zFo _) (enters_of func89 (by kernel_rfl) rfl) 90 #[.pointer (some ⟨Bm,0,none⟩)] trivial (enters_of func90 (by kernel_rfl) rfl) _ 0 (Nat.zero_le _) (by omega) _ hseq
    exact (callsIn_wide.1 cS).mono fun e w' ⟨v,ss,he,hS,hrow,hnil,hb⟩=>⟨by rw [he,hnil.2 hS],hb⟩⟩
theorem Tryz.zGN {ρ:Dw.Val} {w:Dw.Cx}:Dw.zfY prog ρ w (Dw.zf5 64 [90]):=Dw.zoX fun g hg=>by
 simp only [List.mem_cons,List.not_mem_nil,or_false] at hg
 rcases hg with rfl
 ·exact sortedOk90
open Go.Dw
theorem Tryz.zDe {w:World} {base base':Nat} {e:TypeId} {size:Nat} {v:Value} {n:Nat} {xs:List Value} (h:w.ownsRow base e size v n xs) (hb:base'≤base):w.ownsRow base' e size v n xs:=by
 rcases h.2 with h0|⟨g,cap,cur,hv,hg,hr⟩
 ·exact ⟨h.1,Or.inl h0⟩
 ·exact ⟨h.1,Or.inr ⟨g,cap,cur,hv,Nat.le_trans hb hg,hr⟩⟩
theorem Tryz.zq7: ∀ {l:List MapEntry},(∀e∈l,∃n,e.key= .int .i64 n)→ ∃ks:List Int,l.map (·.key)=ks.map encZ∧ ∀x,x∈ks↔ ∃e∈l,e.key= .int .i64 x
 | [], _=>⟨[],rfl,fun x=>by simp⟩
 | e::l,h=>by
  obtain ⟨ks,h1,h2⟩:=zq7 fun e he=>h e (List.mem_cons_of_mem _ he)
  obtain ⟨n,hn⟩:=h e List.mem_cons_self
  refine ⟨n::ks,by rw [List.map_cons,List.map_cons,h1,hn],fun x=> ?_⟩
  rw [List.mem_cons,h2]
  constructor
  ·rintro (rfl|⟨e',h3,h4⟩)
   ·exact ⟨e,List.mem_cons_self,hn⟩
   ·exact ⟨e',List.mem_cons_of_mem _ h3,h4⟩
  ·rintro ⟨e',h3,h4⟩
   rcases List.mem_cons.1 h3 with rfl|h3
   ·left
    rw [hn] at h4
    cases h4
    rfl
   ·exact .inr ⟨e',h3,h4⟩
end Go.Proofs
namespace Go.Dw
open Go.RowKit Go.WideShapes Go.ChangeShapes
theorem trodAll_stays {H:Type} {enc:TypeId×Value→H} {P:Program} {W W':World} (hl:laidOutB P=true) (hb:Below W.heap.size W W') {sp:Nat→Bool}: ∀ {ts:List TypeId} {vs:List Value} {ds:List (DataW H)} {ps:List MemPlace},
  (∀ t∈ts,P.readableRec t=true∧t<P.types.size)→DataW.TrodAll enc P W 0 (fun _=>true) true ts vs ds ps→(∀x∈ps,x.block<W.heap.size)→(∀x∈ps,sp x.block=true)→DataW.TrodAll enc P W' 0 sp true ts vs ds ps
 | [], vs,ds,ps,_,h,_,_=>by
  obtain ⟨rfl,rfl,rfl⟩:=trodAll_nil h
  exact trodAll_mk0
 | t::ts,vs,ds,ps,ht,h,hlt,hsp=>by
  obtain ⟨v,vs',d,ds',p,q,rfl,rfl,rfl,h0,h1⟩:=trodAll_cons h
  have ht0:=ht t (List.mem_cons_self ..)
  refine trodAll_cons_mk (WideElems.Trod_stays hl ht0.1 ht0.2 h0 (fun x hx=>hb.same (hlt x (List.mem_append_left _ hx))) (fun x hx=>hsp x (List.mem_append_left _ hx))) ?_
  exact trodAll_stays hl hb (fun u hu=>ht u (List.mem_cons_of_mem _ hu)) h1 (fun x hx=>hlt x (List.mem_append_right _ hx)) (fun x hx=>hsp x (List.mem_append_right _ hx))
theorem okWide_bools3 {P:Program} {w:World} {r:Reach} {base:Nat} {t b:TypeId} {fs:Array Field} {v:Value} (ht:P.underlying t=some (.struct fs)) (hn:P.cellsOf t=3) (hc:P.cellTypes P.depth t=some [b,b,b])
  (hb:P.underlying b=some .bool) (h:Value.okWide P w r base t v): ∃x y z,v= .agg #[.bool x,.bool y,.bool z]:=by
 simp only [Value.okWide,ht] at h
 obtain ⟨cs,rfl,hsz,ts,hts,_,hcell⟩:=h
 rw [hc] at hts
 cases hts
 rw [hn] at hsz
 have cell: ∀i v,i<3→cs[i]? =some v→ ∃x,v= .bool x:=fun i v hi hv=>by
  obtain ⟨u,hu,hok⟩:=hcell i v hv
  have e:u=b:=by
   have hi':i% [b,b,b].length=i:=Nat.mod_eq_of_lt (by simpa using hi)
   rw [hi'] at hu
   match i,hi with
   | 0,_=>simpa using hu.symm
   | 1,_=>simpa using hu.symm
   | 2,_=>simpa using hu.symm
  subst e
  simp only [Cell.okWide,hb] at hok
  cases v<;>simp_all [Cell.ok]
 obtain ⟨x,hx⟩:=cell 0 cs[0] (by omega) (Array.getElem?_eq_getElem (by omega))
 obtain ⟨y,hy⟩:=cell 1 cs[1] (by omega) (Array.getElem?_eq_getElem (by omega))
 obtain ⟨z,hz⟩:=cell 2 cs[2] (by omega) (Array.getElem?_eq_getElem (by omega))
 refine ⟨x,y,z,?_⟩
 congr 1
 apply Array.ext
 ·rw [hsz];rfl
 ·intro i h1 h2
  match i,h2 with
  | 0,_=>exact hx
  | 1,_=>exact hy
  | 2,_=>exact hz
end Go.Dw
namespace Go.Dw
open Go.RowKit
mutual
def clo:AV→Option Value
 | .bool (.lit b)=>some (.bool b)
 | .int k (.lit n)=>some (.int k n)
 | .nilp=>some (.pointer none)
 | .nils=>some (.slice none 0 0)
 | .agg l=>match cloL l with|some m=>some (.agg m.toArray)|none=>none
 | .tup l=>match cloL l with|some m=>some (.tuple m.toArray)|none=>none
 | _=>none
def cloL:List AV→Option (List Value)
 | [] => some []
 | a::l=>match clo a,cloL l with|some v,some m=>some (v::m)|_,_=>none
end
mutual
theorem clo_sound {ρ:Val} {j:J}: ∀ {a:AV} {x u:Value},clo a=some x→R ρ j a u→u=x
 | .bool (.lit b),x,u,h,r=>by cases h;exact r
 | .int k (.lit n),x,u,h,r=>by cases h;exact r
 | .nilp,x,u,h,r=>by cases h;exact r
 | .nils,x,u,h,r=>by cases h;exact r
 | .agg l,x,u,h,r=>by
  obtain ⟨m,rfl,hm⟩:=r
  rw [clo] at h
  cases hl:cloL l with
  | none=>rw [hl] at h;cases h
  | some m'=>rw [hl] at h;cases h;rw [cloL_sound hl hm]
 | .tup l,x,u,h,r=>by
  obtain ⟨m,rfl,hm⟩:=r
  rw [clo] at h
  cases hl:cloL l with
  | none=>rw [hl] at h;cases h
  | some m'=>rw [hl] at h;cases h;rw [cloL_sound hl hm]
theorem cloL_sound {ρ:Val} {j:J}: ∀ {l:List AV} {m us:List Value},cloL l=some m→RL ρ j l us→us=m
 | [], m,us,h,r=>by cases h;exact r
 | a::l,m,us,h,r=>by
  obtain ⟨v,m',rfl,hv,hm⟩:=r
  rw [cloL] at h
  cases ha:clo a with
  | none=>rw [ha] at h;cases h
  | some x=>
   cases hl:cloL l with
   | none=>rw [ha,hl] at h;cases h
   | some y=>rw [ha,hl] at h;cases h;rw [clo_sound ha hv,cloL_sound hl hm]
end
def eqB (a b:Bool):Bool:=match a with|true=>b|false=>match b with|true=>false|false=>true
mutual
def eqAV:AV→AV→Bool
 | .bool (.lit a),.bool (.lit b)=>eqB a b
 | .int k (.lit a),.int k' (.lit b)=>match decide (k=k') with|true=>decide (a=b)|false=>false
 | .nilp,.nilp=>true
 | .nils,.nils=>true
 | .agg l,.agg m=>eqAVL l m
 | .tup l,.tup m=>eqAVL l m
 | _,_=>false
def eqAVL:List AV→List AV→Bool
 | [], [] => true
 | a::l,b::m=>match eqAV a b with|true=>eqAVL l m|false=>false
 | _,_=>false
end
theorem zJ0 {a b:Bool} (h:eqB a b=true):a=b:=by cases a<;>cases b<;>first|rfl|cases h
mutual
theorem eqAV_eq: ∀ {a b:AV},eqAV a b=true→a=b
 | .bool (.lit a),.bool (.lit b),h=>by rw [zJ0 (a:=a) (b:=b) h]
 | .int k (.lit a),.int k' (.lit b),h=>by
  rw [eqAV] at h
  split at h
  ·rename_i hk
   rw [of_decide_eq_true hk,of_decide_eq_true h]
  ·cases h
 | .nilp,.nilp,_=>rfl
 | .nils,.nils,_=>rfl
 | .agg l,.agg m,h=>by rw [eqAVL_eq (l:=l) (m:=m) h]
 | .tup l,.tup m,h=>by rw [eqAVL_eq (l:=l) (m:=m) h]
theorem eqAVL_eq: ∀ {l m:List AV},eqAVL l m=true→l=m
 | [], [], _=>rfl
 | a::l,b::m,h=>by
  rw [eqAVL] at h
  split at h
  ·rename_i ha
   rw [eqAV_eq ha,eqAVL_eq h]
  ·cases h
end
def isAV (x : AV) (v : AV) (_ : Heap) : Ob := match eqAV v x with | true => .ok | false => .bad 96 "other"
theorem zsj {P:Program} (hmo:P.follows .mixedOrders=true) {n:Nat} {f:FuncId} {args:List AV} {vals:List Value} {x:AV} {u:Value} (hx:clo x=some u) (ha:RL Val.zero (fun _=>none) args vals)
  (h:(ev P zxE n (.call f args heap0 (isAV x))).good=true) (w:World):
  Calls P f vals.toArray w fun e w'=>e= .returned u∧Below w.heap.size w w':=by
 have hg:=znU (P:=P) (ρ:=Val.zero) (w0:=Cx.plain w) (orc:=zxE) zEa (fun n rec hg=>zma hmo hg) n
 refine Calls.mono ((hg.call f args heap0 (isAV x) (Ob.den_of_good h)).2 (fun _=>none) w vals (inv0 w) ha) fun e w' he=> ?_
 obtain ⟨u',rfl,v,H',j',h1,h2,h3,h4⟩:=he
 have hv:v=x:=by
  unfold isAV at h4
  split at h4
  ·rename_i e
   exact eqAV_eq e
  ·exact h4.elim
 rw [hv] at h1
 rw [clo_sound hx h1]
 exact ⟨rfl,h2.fr.below⟩
theorem zCx {ρ:Val} {j:J} {k:IntKind} {n:Int} {l:List AV} {m:List Value} (h:RL ρ j l m):RL ρ j (.int k (.lit n)::l) (.int k n::m):=⟨_,_,rfl,rfl,h⟩
theorem ztI {ρ:Val} {j:J} {b:Bool} {l:List AV} {m:List Value} (h:RL ρ j l m):RL ρ j (.bool (.lit b)::l) (.bool b::m):=⟨_,_,rfl,rfl,h⟩
end Go.Dw
namespace Go.Proofs
open Go.Dw Go.RowKit
structure Tryz.Cl (w:World) (b:Nat) (l:List Value):Prop where
 lt:b<w.heap.size
 cell: ∀(i:Nat) (v:Value),l[i]? =some v→w.cell? ⟨b,i,none⟩=some v
 free: ∀i,w.frozen? ⟨b,i,none⟩=false
theorem Tryz.Cl.below {w w':World} {b B:Nat} {l:List Value} (h:Cl w b l) (hb:Below B w w') (hB:b<B):Cl w' b l:=
 ⟨Nat.lt_of_lt_of_le h.lt hb.size,fun i v hv=>(hb.cell (p:=⟨b,i,none⟩) hB).trans (h.cell i v hv),fun i=>(hb.frozen (p:=⟨b,i,none⟩) hB).trans (h.free i)⟩
theorem Tryz.Cl.at {w:World} {b:Nat} {arr:Array Value} {t:TypeId} (h:w.heap[b]? =some (.cells arr t (0,0))):Cl w b arr.toList:=
 ⟨(Array.getElem?_eq_some_iff.1 h).1,fun i v hv=>by rw [cell_of_row _ _ i _ _ (0,0) h,←Array.getElem?_toList];exact hv,fun i=>by simp [World.frozen?,h]⟩
theorem Tryz.Cl.new (w:World) (arr:Array Value) (t:TypeId):Cl (w.alloc (.cells arr t)) w.heap.size arr.toList:=Cl.at (heap_alloc_last w _)
theorem Tryz.Cl.new2 {w:World} {b:Nat} {arr:Array Value} {t:TypeId} (h:w.heap.size=b):Cl (w.alloc (.cells arr t)) b arr.toList:=h▸Cl.new w arr t
theorem Tryz.Cl.alloc {w:World} {b:Nat} {l:List Value} (h:Cl w b l) (o:Obj):Cl (w.alloc o) b l:=h.below ((Below.refl _ w).alloc (Nat.le_refl _) o) h.lt
theorem Tryz.Cl.set {w:World} {b:Nat} {l:List Value} (h:Cl w b l) (j:Nat) (v:Value) (hj:j<l.length):Cl (w.setCell ⟨b,j,none⟩ v) b (l.set j v):=by
 refine ⟨by have:=h.lt;simpa using this,fun i u hu=> ?_,fun i=>by rw [World.frozen?_setCell];exact h.free i⟩
 by_cases hij:i=j
 ·subst hij
  rw [List.getElem?_set_self hj] at hu
  cases hu
  exact World.cell?_setCell_same' _ _ _ (by rw [h.cell i _ (List.getElem?_eq_getElem hj)];rfl)
 ·rw [List.getElem?_set_ne (fun e=>hij e.symm)] at hu
  rw [World.cell?_setCell_other w ⟨b,j,none⟩ ⟨b,i,none⟩ v (fun e=>hij (congrArg Addr.off e).symm)]
  exact h.cell i u hu
theorem Tryz.zDf {fn:Func} {t t2 p u:Tmp} {ty:TypeId} (h:fn.results= #[.tmp t,.tmp t2,.cell p ty,.tmp u]) (tmps:Array Value) (w:World) (b:Nat) (cs:List Value) (d:TypeDesc)
  (hp:tmps.getD p undef= .pointer (some ⟨b,0,none⟩)) (hg:w.rangeAt b 0 cs) (hu:prog.underlying ty=some d) (hd:d.isRow=true) (hi:(prog.info? ty).map (·.size)=some cs.length):
  (results fn tmps).run prog w= .ok (.tuple #[tmps.getD t undef,tmps.getD t2 undef,.agg cs.toArray,tmps.getD u undef]) w:=by
 have hp':tmps[p]?.getD undef= .pointer (some ⟨b,0,none⟩):=by simpa using hp
 simp [results,h,hp',asAddr,run_loadVar_mid w b 0 ty cs d hg hu hd hi]
theorem Tryz.za8 (w:World) (o:Obj):(w.alloc o).heap.size=w.heap.size+1:=by simp
def Tryz.rckE:Ent:=⟨83,[sl1 []],0,0,0,.int .i64 (.var 7),0⟩
end Go.Proofs
namespace Go.Proofs
open Go.Dw
def Tryz.zpp:List Ent:= []
def Tryz.zuF:List Sh:= [ckEl 3 4 0]
def Tryz.ze7:List (Nat×AV):= [(0,ckL [(.lit 0,1)]),(3,.int .u64 (u64v 2)),(4,.int .i64 (.lit 0))]
def Tryz.zlG:List LEnt:= []
def Tryz.zlH:List AEnt:= []
def Tryz.zuG:Option AV:=none
def Tryz.zDo:List (SB×Bool):= [(.cmp .lss (.lit 0) (lnv 0),true)]
def Tryz.zzG:List zbo:= [
 ⟨.ret,[2],none,⟨.tup [.int .i64 (.lit 2)],[],[],0,[]⟩⟩,
 ⟨.normal,[0,3,4],none,⟨.tup [.sx 0 ((lnv 0)) 3 [((.lit 0),1)],.int .u64 (.bin .add .u64 (u64v 2) (u32v 4)),.int .i64 (.lit 1)],[],[],0,[]⟩⟩]
def Tryz.zzF:List (List (SB×Bool)×Nat):= [
 ([((.cmp .eql (u32v 4) (.lit 0)),true)],0),
 ([((.cmp .eql (u32v 4) (.lit 0)),false),((.cmp .lss (.bin .add .u64 (u64v 3) (.bin .sub .u64 (u32v 4) (.lit 1))) (u64v 3)),true)],0),
 ([((.cmp .eql (u32v 4) (.lit 0)),false),((.cmp .lss (.bin .add .u64 (u64v 3) (.bin .sub .u64 (u32v 4) (.lit 1))) (u64v 3)),false)],1)]
theorem Tryz.zDn:(evL prog (zau zpp) (zaF zlG) (zaE zlH) 100000 (.code (zaK prog [0,0,1,0,1,1,1,83]) [0,0,1,0,1,1,1,83] 71 (envS 71 ze7 zuG) (zas 0 zuF) (zaJ zzG 0))).ways zDo=some zzF:=by kernel_rfl
theorem Tryz.zHb:(zai zuF&&zaf zpp&&zam zlG&&zan zlH&&zaq ze7&&zak zzG&&zaH 71 ze7&&Nat.ble 71 zaP&&zaC zuG)=true:=by kernel_rfl
def Tryz.zpo:List Ent:= []
def Tryz.zuD:List Sh:= [ckEl 3 4 0,ckEl 5 6 1]
def Tryz.ze6:List (Nat×AV):= [(0,ckL [(lnv 1,1),(.bin .sub .i64 (lnv 1) (.lit 1),2)]),(3,.int .u64 (u64v 2)),(4,.int .i64 (lnv 1))]
def Tryz.zlE:List LEnt:= []
def Tryz.zlF:List AEnt:= []
def Tryz.zuE:Option AV:=none
def Tryz.zDm:List (SB×Bool):= [(.cmp .lss (lnv 1) (lnv 0),true),(.cmp .gtr (lnv 1) (.lit 0),true)]
def Tryz.zzE:List zbo:= [
 ⟨.ret,[2],none,⟨.tup [.int .i64 (.lit 2)],[],[],0,[]⟩⟩,
 ⟨.normal,[0,3,4],none,⟨.tup [.sx 0 ((lnv 0)) 3 [((lnv 1),1),((.bin .sub .i64 (lnv 1) (.lit 1)),2)],.int .u64 (.bin .add .u64 (u64v 2) (u32v 4)),.int .i64 (.bin .add .i64 (lnv 1) (.lit 1))],[],[],0,[]⟩⟩]
def Tryz.zzD:List (List (SB×Bool)×Nat):= [
 ([((.cmp .eql (u32v 4) (.lit 0)),true)],0),
 ([((.cmp .eql (u32v 4) (.lit 0)),false),((.cmp .lss (.bin .add .u64 (u64v 3) (.bin .sub .u64 (u32v 4) (.lit 1))) (u64v 3)),true)],0),
 ([((.cmp .eql (u32v 4) (.lit 0)),false),((.cmp .lss (.bin .add .u64 (u64v 3) (.bin .sub .u64 (u32v 4) (.lit 1))) (u64v 3)),false),(.var 1,true),(.var 0,false)],0),
 ([((.cmp .eql (u32v 4) (.lit 0)),false),((.cmp .lss (.bin .add .u64 (u64v 3) (.bin .sub .u64 (u32v 4) (.lit 1))) (u64v 3)),false),(.var 1,true),(.var 0,true)],1),
 ([((.cmp .eql (u32v 4) (.lit 0)),false),((.cmp .lss (.bin .add .u64 (u64v 3) (.bin .sub .u64 (u32v 4) (.lit 1))) (u64v 3)),false),(.var 1,false)],1)]
theorem Tryz.zDl:(evL prog (zau zpo) (zaF zlE) (zaE zlF) 100000 (.code (zaK prog [0,0,1,0,1,1,1,83]) [0,0,1,0,1,1,1,83] 71 (envS 71 ze6 zuE) (zas 0 zuD) (zaJ zzE 0))).ways zDm=some zzD:=by kernel_rfl
theorem Tryz.zHa:(zai zuD&&zaf zpo&&zam zlE&&zan zlF&&zaq ze6&&zak zzE&&zaH 71 ze6&&Nat.ble 71 zaP&&zaC zuE)=true:=by kernel_rfl
def Tryz.zpn:List Ent:= []
def Tryz.zuB:List Sh:= []
def Tryz.ze5:List (Nat×AV):= [(0,ckL []),(3,.int .u64 (u64v 2)),(4,.int .i64 (lnv 1))]
def Tryz.zlC:List LEnt:= []
def Tryz.zlD:List AEnt:= []
def Tryz.zuC:Option AV:=none
def Tryz.zDk:List (SB×Bool):= [(.cmp .lss (lnv 1) (lnv 0),false)]
def Tryz.zzC:List zbo:= [
 ⟨(.exit 0),[3],none,⟨.tup [.int .u64 (u64v 2)],[],[],0,[]⟩⟩]
def Tryz.zzB:List (List (SB×Bool)×Nat):= [
 ([], 0)]
theorem Tryz.zDj:(evL prog (zau zpn) (zaF zlC) (zaE zlD) 100000 (.code (zaK prog [0,0,1,0,1,1,1,83]) [0,0,1,0,1,1,1,83] 71 (envS 71 ze5 zuC) (zas 0 zuB) (zaJ zzC 0))).ways zDk=some zzB:=by kernel_rfl
theorem Tryz.zG9:(zai zuB&&zaf zpn&&zam zlC&&zan zlD&&zaq ze5&&zak zzC&&zaH 71 ze5&&Nat.ble 71 zaP&&zaC zuC)=true:=by kernel_rfl
def Tryz.zpm:List Ent:= []
def Tryz.zuz:List Sh:= []
def Tryz.ze4:List (Nat×AV):= [(3,.int .u64 (u64v 2))]
def Tryz.zlA:List LEnt:= []
def Tryz.zlB:List AEnt:= []
def Tryz.zuA:Option AV:=none
def Tryz.zDi:List (SB×Bool):= []
def Tryz.zzA:List zbo:= [
 ⟨.ret,[2],none,⟨.tup [.int .i64 (.lit 2)],[],[],0,[]⟩⟩,
 ⟨.ret,[2],none,⟨.tup [.int .i64 (.lit 0)],[],[],0,[]⟩⟩]
def Tryz.zzz:List (List (SB×Bool)×Nat):= [
 ([((.cmp .geq (u64v 2) (.lit 4294967296)),true)],0),
 ([((.cmp .geq (u64v 2) (.lit 4294967296)),false)],1)]
theorem Tryz.zDh:(evL prog (zau zpm) (zaF zlA) (zaE zlB) 100000 (.code (zaK prog [1,1,1,1,83]) [1,1,1,1,83] 71 (envS 71 ze4 zuA) (zas 0 zuz) (zaJ zzA 0))).ways zDi=some zzz:=by kernel_rfl
theorem Tryz.zG8:(zai zuz&&zaf zpm&&zam zlA&&zan zlB&&zaq ze4&&zak zzA&&zaH 71 ze4&&Nat.ble 71 zaP&&zaC zuA)=true:=by kernel_rfl
def Tryz.zux:List Ent:= [rckE]
def Tryz.zzw:List Sh:= []
def Tryz.zuy:List AV:= [sl1 []]
def Tryz.zG7:List (SB×Bool):= []
def Tryz.zFz:List Leaf:= [
 ⟨.int .i64 (.lit 2),[],[],0,[]⟩,
 ⟨.int .i64 (.var 7),[],[],0,[]⟩]
def Tryz.zzy:List (List (SB×Bool)×Nat):= [
 ([((.cmp .eql (.var 7) (.lit 0)),true),((.cmp .eql (lnv 0) (.lit 0)),true)],0),
 ([((.cmp .eql (.var 7) (.lit 0)),true),((.cmp .eql (lnv 0) (.lit 0)),false)],1),
 ([((.cmp .eql (.var 7) (.lit 0)),false)],1)]
theorem Tryz.zzx:(ev prog (zau zux) 100000 (.call 54 zuy (zas 0 zzw) (zaR zFz 0))).ways zG7=some zzy:=by kernel_rfl
theorem Tryz.zFy:(zai zzw&&zaf zux&&AV.smallL zuy&&zal zFz)=true:=by kernel_rfl
open Go.RowKit
structure Tryz.RcI (l:List Sg) (sa:Option Addr) (c:Nat) (w0:World) (k:Nat) (a:Act) (w:World):Prop where
 kl:k≤l.length
 size:a.tmps.size=71
 dfr:a.defers= []
 s0:a.tmps.getD 0 undef= .slice sa l.length c
 s4:a.tmps.getD 4 undef= .int .i64 k
 mv:Below w0.heap.size w0 w
 sum: ∃pw s,a.tmps.getD 3 undef= .int .u64 s∧0≤s∧s≤k*4294967296∧za4 pw s (l.drop k)=za4 false 0 l∧(k=0→pw=false)∧(∀i,k=i+1→ ∃h:i<l.length,pw=l[i].wr)
theorem Tryz.zKq {ρ:Val} {j:J} {sa:Option Addr} {n c:Nat} (hv:ρ.v 0= .slice sa n c) (hd:(lnv 0).den ρ=n):Dw.R ρ j (ckL []) (.slice sa n c):=by
 have:Dw.R ρ j (ckL []) (ρ.v 0):=⟨rfl,sa,n,c,hv,hd.symm,trivial⟩
 rwa [hv] at this
theorem Tryz.zDp {l:List Sg} {sa:Option Addr} {c:Nat} {w0:World} {k:Nat} {a:Act} {w:World} (h:RcI l sa c w0 k a w) (hl:l.length≤64) (hok: ∀x∈l,x.ok)
    (hr:l= []∨ ∃R o,sa=some ⟨R,o,none⟩∧w0.rangeAt R o (zaS l)):
    (zaK prog [0,0,1,0,1,1,1,83]).wp prog (fun ex a' w'=>match ex with
      | .normal=>k<l.length∧RcI l sa c w0 (k+1) a' w'
      | ex=>a'.tmps.size=71∧a'.defers= []∧Below w0.heap.size w0 w'∧((ex= .ret∧za4 false 0 l=2∧a'.tmps.getD 2 undef= .int .i64 2)∨(ex= .exit 0∧ ∃s,za4 false 0 l=(if 4294967296≤s then 2 else 0)∧a'.tmps.getD 3 undef= .int .u64 s∧0≤s∧s<18446744073709551616))) a w:=by
  obtain ⟨kl,size,dfr,s0,s4,mv,pw,s,s3,hs0,hs1,hsw,hp0,hp1⟩:=h
  have hden: ∀(n k' s':Int) (x y:Sg) (sl:Value),n=l.length→0≤k'→k'≤64→0≤s'→s'<18446744073709551616→x.ok→(lnv 0).den (zb9 n k' s' x y sl)=l.length∧(lnv 1).den (zb9 n k' s' x y sl)=k'∧(u64v 2).den (zb9 n k' s' x y sl)=s'∧(u64v 3).den (zb9 n k' s' x y sl)=x.at1∧(u32v 4).den (zb9 n k' s' x y sl)=x.len:=by
    intro n k' s' x y sl h1 h2 h3 h4 h5 h6
    subst h1
    exact ⟨zat (by show (0:Int)≤l.length;omega) (by show ((l.length:Nat):Int)<_;omega),zat h2 (by show k'<_;omega),zaG h4 h5,zaG h6.1 h6.2.1,zbx h6.2.2.1 h6.2.2.2⟩
  by_cases hkl:k<l.length
  · rcases hr with h0|⟨R,o,rfl,hr⟩
    · rw [h0] at hkl;simp at hkl
    have hRw0:=zcF hr (by intro h0;rw [h0] at hkl;simp at hkl)
    have hrw:w.rangeAt R o (zaS l):=zaV hr (mv.block R hRw0)
    have hx:=zb0 hrw k hkl
    have hxo:=hok l[k] (List.getElem_mem hkl)
    rw [List.drop_eq_getElem_cons hkl] at hsw
    generalize hX:l[k]=X at hx hxo hsw
    have hXok:=hxo
    obtain ⟨xa0,xa1,xl0,xl1⟩:=hxo
    rw [za4] at hsw
    have hwl:X.len≠0→IntKind.wrap .u64 (X.len-1)=X.len-1:=fun h=>zbE (by omega) (by omega)
    have hwa:IntKind.wrap .u64 (X.at1+(X.len-1))=(X.at1+(X.len-1))%18446744073709551616:=zoe _
    have hws:IntKind.wrap .u64 (s+X.len)=s+X.len:=zbE (by omega) (by omega)
    have hkk:IntKind.wrap .i64 ((k:Int)+1)=((k+1:Nat):Int):=by rw [zbL (by omega) (by omega)];omega
    have fin: ∀ {a':Act} {w':World},a'.tmps.size=71→a'.defers= []→Below w.heap.size w w'→([0,3,4].map fun t=>a'.tmps.getD t undef)= [.slice (some ⟨R,o,none⟩) l.length c,.int .u64 (s+X.len),.int .i64 (k+1:Nat)]→
        za4 X.wr (s+X.len) (l.drop (k+1))=za4 false 0 l→k<l.length∧RcI l (some ⟨R,o,none⟩) c w0 (k+1) a' w':=fun {a' w'} q1 q2 q5 q8 q9=>by
      simp only [List.map_cons,List.map_nil,List.cons.injEq,and_true] at q8
      obtain ⟨t0,t3,t4⟩:=q8
      refine ⟨hkl,⟨by omega,q1,q2,t0,t4,mv.trans (q5.mono mv.size),X.wr,s+X.len,t3,by omega,by push_cast;omega,q9,by omega,fun i hi=> ?_⟩⟩
      have:k=i:=by omega
      subst this
      exact ⟨hkl,by rw [hX]⟩
    rcases Nat.eq_zero_or_pos k with hk0|hk0
    · subst hk0
      have hpw:=hp0 rfl
      subst hpw
      obtain ⟨d0,d1,d2,d3,d4⟩:=hden l.length 0 s X X (.slice (some ⟨R,o,none⟩) l.length c) rfl (by omega) (by omega) hs0 (by omega) hXok
      have hv0:(zb9 l.length 0 s X X (.slice (some ⟨R,o,none⟩) l.length c)).v 0= .slice (some ⟨R,o,none⟩) l.length c:=rfl
      have hb0:(zb9 l.length 0 s X X (.slice (some ⟨R,o,none⟩) l.length c)).b 0=X.wr:=rfl
      generalize zb9 l.length 0 s X X (.slice (some ⟨R,o,none⟩) l.length c)=ρ at*
      have hj1:jOf [(R,o)] 1=some ⟨R,o,0,none⟩:=rfl
      have hsx:Dw.R ρ (jOf [(R,o)]) (ckL [(.lit 0,1)]) (.slice (some ⟨R,o,none⟩) l.length c):=by
        have:Dw.R ρ (jOf [(R,o)]) (ckL [(.lit 0,1)]) (ρ.v 0):=⟨rfl,_,_,_,hv0,d0.symm,⟨R,o,_,0,rfl,hj1,rfl,rfl,hkl,rfl⟩,trivial⟩
        rwa [hv0] at this
      refine wp_mono (zaz (ρ:=ρ) (K:=fun _=>False) (g:=Gho.none) (bl:= [(R,o)]) mixed zDn zHb (fun b h=>h.elim)
        ⟨zba hx (by unfold Sg.cells;simp) (zab (zac d3) (zab (zac d4) (zab (zap hb0) RL.nil))) (fun h=>h),trivial⟩
        ⟨fun h=>(by cases h),trivial⟩ zaO trivial trivial trivial size dfr ?_ (zaa.2 ⟨by rw [zaY,d0,zad];simp only [decide_eq_true_eq];omega,zae.2 trivial⟩)) fun ex a' w' hh=> ?_
      · intro t ht
        simp only [ze7,List.mem_cons,List.not_mem_nil,or_false] at ht
        rcases ht with rfl|rfl|rfl
        · rw [s0];exact hsx
        · rw [s3];exact zac d2
        · rw [s4];exact zac rfl
      · obtain ⟨q,hq,hto,lf,hlf,rfl,hsz,j,hdf,he⟩:=hh
        have hbl:=zar he (fun _ h=>h)
        unfold zzF at hq
        simp only [List.mem_cons,List.not_mem_nil,or_false] at hq
        rcases hq with rfl|rfl|rfl
        all_goals
          simp only [zaa,zae,zbj,zaY,zaA,zbs,den_add,zad,d0,d1,d2,d3,d4,decide_eq_true_eq,decide_eq_false_iff_not,beq_iff_eq,beq_eq_false_iff_ne,ne_eq,and_true] at hto
          cases hlf
          have hs:=zaB he.ret
        · exact ⟨hsz,hdf,mv.trans (hbl.mono mv.size),.inl ⟨rfl,by rw [←hsw,if_pos (by omega)],by simpa [AV.valL,AV.val,zad] using hs⟩⟩
        · obtain ⟨t1,t2⟩:=hto
          rw [hwl t1,hwa] at t2
          exact ⟨hsz,hdf,mv.trans (hbl.mono mv.size),.inl ⟨rfl,by rw [←hsw,if_pos (by omega)],by simpa [AV.valL,AV.val,zad] using hs⟩⟩
        · obtain ⟨t1,t2⟩:=hto
          rw [hwl t1,hwa] at t2
          refine fin hsz hdf hbl ?_ ?_
          · rw [hs]
            simp only [AV.valL,AV.val,d2,d4,hv0,den_add,zad,hws]
            rfl
          · rw [←hsw,if_neg (by rintro (h|h|⟨h,_⟩);omega;omega;cases h)]
    · obtain ⟨i,rfl⟩: ∃i,k=i+1:=⟨k-1,by omega⟩
      obtain ⟨hil,hpw⟩:=hp1 i rfl
      have hy:=zb0 hrw i hil
      have hyo:=hok l[i] (List.getElem_mem hil)
      generalize hY:l[i]=Y at hy hyo hpw
      subst hpw
      have hk1:IntKind.wrap .i64 (((i+1:Nat):Int)-1)=(i:Int):=by rw [zbL (by omega) (by omega)];omega
      obtain ⟨d0,d1,d2,d3,d4⟩:=hden l.length (i+1:Nat) s X Y (.slice (some ⟨R,o,none⟩) l.length c) rfl (by omega) (by omega) hs0 (by omega) hXok
      have hv0:(zb9 l.length (i+1:Nat) s X Y (.slice (some ⟨R,o,none⟩) l.length c)).v 0= .slice (some ⟨R,o,none⟩) l.length c:=rfl
      have hb0:(zb9 l.length (i+1:Nat) s X Y (.slice (some ⟨R,o,none⟩) l.length c)).b 0=X.wr:=rfl
      have hb1:(zb9 l.length (i+1:Nat) s X Y (.slice (some ⟨R,o,none⟩) l.length c)).b 1=Y.wr:=rfl
      have d5:(u64v 5).den (zb9 l.length (i+1:Nat) s X Y (.slice (some ⟨R,o,none⟩) l.length c))=Y.at1:=zaG hyo.1 hyo.2.1
      have d6:(u32v 6).den (zb9 l.length (i+1:Nat) s X Y (.slice (some ⟨R,o,none⟩) l.length c))=Y.len:=zbx hyo.2.2.1 hyo.2.2.2
      generalize zb9 l.length (i+1:Nat) s X Y (.slice (some ⟨R,o,none⟩) l.length c)=ρ at*
      have hj1:jOf [(R,o+3*(i+1)),(R,o+3*i)] 1=some ⟨R,o+3*(i+1),0,none⟩:=rfl
      have hj2:jOf [(R,o+3*(i+1)),(R,o+3*i)] 2=some ⟨R,o+3*i,0,none⟩:=rfl
      have hsx:Dw.R ρ (jOf [(R,o+3*(i+1)),(R,o+3*i)]) (ckL [(lnv 1,1),(.bin .sub .i64 (lnv 1) (.lit 1),2)]) (.slice (some ⟨R,o,none⟩) l.length c):=by
        have:Dw.R ρ (jOf [(R,o+3*(i+1)),(R,o+3*i)]) (ckL [(lnv 1,1),(.bin .sub .i64 (lnv 1) (.lit 1),2)]) (ρ.v 0):=
          ⟨rfl,_,_,_,hv0,d0.symm,⟨R,o,_,i+1,rfl,hj1,rfl,d1,hkl,rfl⟩,⟨R,o,_,i,rfl,hj2,rfl,by rw [zbs,d1,zad,hk1];rfl,hil,rfl⟩,trivial⟩
        rwa [hv0] at this
      refine wp_mono (zaz (ρ:=ρ) (K:=fun _=>False) (g:=Gho.none) (bl:= [(R,o+3*(i+1)),(R,o+3*i)]) mixed zDl zHa (fun b h=>h.elim)
        ⟨zba hx (by unfold Sg.cells;simp) (zab (zac d3) (zab (zac d4) (zab (zap hb0) RL.nil))) (fun h=>h),zba hy (by unfold Sg.cells;simp) (zab (zac d5) (zab (zac d6) (zab (zap hb1) RL.nil))) (fun h=>h),trivial⟩
        ⟨fun h=>(by cases h),fun h=>(by cases h),trivial⟩ zaO trivial trivial trivial size dfr ?_ (zaa.2 ⟨by rw [zaY,d0,d1];simp only [decide_eq_true_eq];omega,zaa.2 ⟨by rw [zbC,d1,zad];simp only [decide_eq_true_eq];omega,zae.2 trivial⟩⟩)) fun ex a' w' hh=> ?_
      · intro t ht
        simp only [ze6,List.mem_cons,List.not_mem_nil,or_false] at ht
        rcases ht with rfl|rfl|rfl
        · rw [s0];exact hsx
        · rw [s3];exact zac d2
        · rw [s4];exact zac d1
      · obtain ⟨q,hq,hto,lf,hlf,rfl,hsz,j,hdf,he⟩:=hh
        have hbl:=zar he (fun _ h=>h)
        unfold zzD at hq
        simp only [List.mem_cons,List.not_mem_nil,or_false] at hq
        rcases hq with rfl|rfl|rfl|rfl|rfl
        all_goals
          simp only [zaa,zae,zbj,zaY,zaA,zbs,den_add,zad,d0,d1,d2,d3,d4,hb0,hb1,decide_eq_true_eq,decide_eq_false_iff_not,beq_iff_eq,beq_eq_false_iff_ne,ne_eq,and_true] at hto
          cases hlf
          have hs:=zaB he.ret
        · exact ⟨hsz,hdf,mv.trans (hbl.mono mv.size),.inl ⟨rfl,by rw [←hsw,if_pos (by omega)],by simpa [AV.valL,AV.val,zad] using hs⟩⟩
        · obtain ⟨t1,t2⟩:=hto
          rw [hwl t1,hwa] at t2
          exact ⟨hsz,hdf,mv.trans (hbl.mono mv.size),.inl ⟨rfl,by rw [←hsw,if_pos (by omega)],by simpa [AV.valL,AV.val,zad] using hs⟩⟩
        · exact ⟨hsz,hdf,mv.trans (hbl.mono mv.size),.inl ⟨rfl,by rw [←hsw,if_pos (.inr (.inr ⟨hto.2.2.1,hto.2.2.2⟩))],by simpa [AV.valL,AV.val,zad] using hs⟩⟩
        · obtain ⟨t1,t2,t3,t4⟩:=hto
          rw [hwl t1,hwa] at t2
          refine fin hsz hdf hbl ?_ ?_
          · rw [hs]
            simp only [AV.valL,AV.val,d1,d2,d4,hv0,den_add,zad,hws,hkk]
          · rw [←hsw,if_neg (by rintro (h|h|⟨h,h'⟩);omega;omega;rw [t4] at h';cases h')]
        · obtain ⟨t1,t2,t3⟩:=hto
          rw [hwl t1,hwa] at t2
          refine fin hsz hdf hbl ?_ ?_
          · rw [hs]
            simp only [AV.valL,AV.val,d1,d2,d4,hv0,den_add,zad,hws,hkk]
          · rw [←hsw,if_neg (by rintro (h|h|⟨h,h'⟩);omega;omega;rw [t3] at h;cases h)]
  · have hkk:k=l.length:=by omega
    subst hkk
    rw [List.drop_length,za4] at hsw
    obtain ⟨d0,d1,d2,d3,d4⟩:=hden l.length l.length s ⟨0,0,false⟩ ⟨0,0,false⟩ (.slice sa l.length c) rfl (by omega) (by omega) hs0 (by omega) ⟨by decide,by decide,by decide,by decide⟩
    have hv0:(zb9 l.length l.length s ⟨0,0,false⟩ ⟨0,0,false⟩ (.slice sa l.length c)).v 0= .slice sa l.length c:=rfl
    generalize zb9 l.length l.length s ⟨0,0,false⟩ ⟨0,0,false⟩ (.slice sa l.length c)=ρ at*
    refine wp_mono (zaz (ρ:=ρ) (K:=fun _=>False) (g:=Gho.none) (bl:= []) mixed zDj zG9 (fun b h=>h.elim) trivial trivial zaO trivial trivial trivial size dfr ?_ (zaa.2 ⟨by rw [zaY,d0,d1];simp,zae.2 trivial⟩)) fun ex a' w' hh=> ?_
    · intro t ht
      simp only [ze5,List.mem_cons,List.not_mem_nil,or_false] at ht
      rcases ht with rfl|rfl|rfl
      · rw [s0];exact zKq hv0 d0
      · rw [s3];exact zac d2
      · rw [s4];exact zac d1
    · obtain ⟨q,hq,hto,lf,hlf,rfl,hsz,j,hdf,he⟩:=hh
      have hbl:=zar he (fun _ h=>h)
      unfold zzB at hq
      simp only [List.mem_cons,List.not_mem_nil,or_false] at hq
      subst hq
      cases hlf
      have hs:=zaB he.ret
      exact ⟨hsz,hdf,mv.trans (hbl.mono mv.size),.inr ⟨rfl,s,hsw.symm,by simpa [AV.valL,AV.val,d2] using hs,hs0,by omega⟩⟩
theorem Tryz.zdb {fn:Func} {t:Tmp} {a:Act} {w:World} {v:Value} {Post:Ending→World→Prop} (hd:a.defers= []) (h:fn.results= #[.tmp t]) (hv:a.tmps.getD t undef=v) (hp:Post (.returned v) w):bodyPost prog fn Post .ret a w:=
 bodyPost_ret (v:=v) (by
  have hv':a.tmps[t]?.getD undef=v:=by simpa using hv
  simp [results,h,hv']) hd hp
set_option maxRecDepth 100000 in
theorem Tryz.zuu {A:Nat→Prop} {w:World} {v:Value} {l:List Sg} (h:SegV A w v l):
  Calls prog 83 #[v] w fun e w'=>e= .returned (.int .i64 (zaU l))∧Below w.heap.size w w':=by
 obtain ⟨sa,c,rfl,hok,hr⟩:=h
 unfold zaU
 by_cases hlen:64<l.length
 ·rw [if_pos hlen]
  go_enter func83,ntmps83
  go_wp2
  go_ret
  exact ⟨rfl,Below.refl _ _⟩
 ·rw [if_neg hlen]
  have hr':l= []∨ ∃R o,sa=some ⟨R,o,none⟩∧w.rangeAt R o (zaS l):=hr.imp_right fun ⟨R,o,e,_,hr⟩=>⟨R,o,e,hr⟩
  go_enter func83,ntmps83
  go_wp2
  refine zby (c':= .loop (zaK prog [0,0,1,0,1,1,1,83])) (by kernel_rfl) ?_
  refine zbJ (fun k a w'=>RcI l sa c w k a w') (fun k=>l.length-k) (fun k a w' hI=>wp_mono (zDp hI (by omega) hok hr') fun ex a' w2 hh=> ?_) 0 _ _ ?_
  ·cases ex with
   | normal=>exact ⟨k+1,by omega,hh.2⟩
   | ret=>
    obtain ⟨hsz,hdf,hb,⟨_,hV,h2⟩|⟨h,_⟩⟩:=hh
    ·exact zdb (fn:=f83) (Post:=fun e w'=>e= .returned (.int .i64 (za4 false 0 l))∧RowKit.Below w.heap.size w w') hdf rfl h2 ⟨by rw [hV],hb⟩
    ·cases h
   | exit i=>
    obtain ⟨hsz,hdf,hb,⟨h,_⟩|⟨h,s,hV,h3,hs0,hs1⟩⟩:=hh
    ·cases h
    ·cases h
     simp only [Exit.inBlock,Exit.then,if_pos]
     rename_i K hK
     refine hK _ _ (zby (c':=zaK prog [1,1,1,1,83]) (by kernel_rfl) ?_)
     have d2:(u64v 2).den (zb9 0 0 s ⟨0,0,false⟩ ⟨0,0,false⟩ undef)=s:=zaG hs0 hs1
     generalize zb9 0 0 s ⟨0,0,false⟩ ⟨0,0,false⟩ undef=ρ at*
     refine wp_mono (zaz (ρ:=ρ) (K:=fun _=>False) (g:=Gho.none) (bl:= []) mixed zDh zG8 (fun b h=>h.elim) trivial trivial zaO trivial trivial trivial hsz hdf ?_ (zae.2 trivial)) fun ex a3 w3 hh=> ?_
     ·intro t ht
      simp only [ze4,List.mem_cons,List.not_mem_nil,or_false] at ht
      subst ht
      rw [h3];exact zac d2
     ·obtain ⟨q,hq,hto,lf,hlf,rfl,hsz3,j,hdf3,he⟩:=hh
      have hb3:=zar he (fun _ h=>h)
      unfold zzz at hq
      simp only [List.mem_cons,List.not_mem_nil,or_false] at hq
      rcases hq with rfl|rfl
      all_goals
       simp only [zaa,zae,zcf,d2,zad,decide_eq_true_eq,decide_eq_false_iff_not,and_true] at hto
       cases hlf
       have h2:=zaB he.ret
       simp only [AV.valL,AV.val,zad,List.map_cons,List.map_nil,List.cons.injEq,and_true] at h2
      ·exact zdb (fn:=f83) (Post:=fun e w'=>e= .returned (.int .i64 (za4 false 0 l))∧RowKit.Below w.heap.size w w') hdf3 rfl h2 ⟨by rw [hV,if_pos (by omega)],hb.trans (hb3.mono hb.size)⟩
      ·exact zdb (fn:=f83) (Post:=fun e w'=>e= .returned (.int .i64 (za4 false 0 l))∧RowKit.Below w.heap.size w w') hdf3 rfl h2 ⟨by rw [hV,if_neg (by omega)],hb.trans (hb3.mono hb.size)⟩
   | _=>obtain ⟨hsz,hdf,hb,⟨h,_⟩|⟨h,_⟩⟩:=hh<;>cases h
  ·exact ⟨Nat.zero_le _,rfl,rfl,rfl,rfl,Below.refl _ _,false,0,rfl,by decide,by decide,rfl,fun _=>rfl,fun i hi=>(by omega)⟩
open Go.Maps Go.Sort
def Tryz.zbe (ids:List Int):List Value:=ids.map fun x=> .int .i64 x
def Tryz.OwnR (t:TypeId) (sz:Nat) (w:World) (b2:Nat) (v:Value) (n:Nat) (cs:List Value):Prop:=w.ownsRow b2 t sz v n cs
theorem Tryz.OwnR.kept {t:TypeId} {sz n:Nat} {w w':World} {b2:Nat} {v:Value} {cs:List Value} (h:OwnR t sz w b2 v n cs) (hb: ∀b,v.ownBlock=some b→w'.heap[b]? =w.heap[b]?):OwnR t sz w' b2 v n cs:=by
 obtain ⟨h1,h2⟩:=h
 refine ⟨h1,?_⟩
 rcases h2 with h2|⟨G,cap,cur,e,h3,h4,h5⟩
 ·exact .inl h2
 ·exact .inr ⟨G,cap,cur,e,h3,by rw [hb G (by rw [e];rfl)];exact h4,h5⟩
theorem Tryz.OwnR.lt {t:TypeId} {sz n:Nat} {w:World} {b2:Nat} {v:Value} {cs:List Value} (h:OwnR t sz w b2 v n cs): ∀b,v.ownBlock=some b→b2≤b∧b<w.heap.size:=fun b hb=>by
 obtain ⟨h1,h2⟩:=h
 rcases h2 with ⟨rfl,_⟩|⟨G,cap,cur,rfl,h3,h4,h5⟩
 ·cases hb
 ·cases hb;exact ⟨h3,(Array.getElem?_eq_some_iff.1 h4).1⟩
theorem Tryz.OwnR.one {t:TypeId} {sz n:Nat} {w:World} {b2:Nat} {v:Value} {cs:List Value} (h:OwnR t sz w b2 v n cs):v.oneCell'=true:=by
 obtain ⟨h1,h2⟩:=h
 rcases h2 with ⟨rfl,h2⟩|⟨G,cap,cur,rfl,_⟩<;>rfl
theorem Tryz.OwnR.mono {t:TypeId} {sz n:Nat} {w:World} {b1 b2:Nat} {v:Value} {cs:List Value} (h:OwnR t sz w b2 v n cs) (hb:b1≤b2):OwnR t sz w b1 v n cs:=by
 obtain ⟨h1,h2⟩:=h
 refine ⟨h1,?_⟩
 rcases h2 with h2|⟨G,cap,cur,e,h3,h4⟩
 ·exact .inl h2
 ·exact .inr ⟨G,cap,cur,e,Nat.le_trans hb h3,h4⟩
theorem Tryz.OwnR.nil (t:TypeId) (sz:Nat) (w:World) (b2:Nat):OwnR t sz w b2 (.slice none 0 0) 0 []:=⟨by simp,.inl ⟨rfl,rfl⟩⟩
theorem Tryz.OwnR.row {t:TypeId} {sz n:Nat} {w:World} {b2:Nat} {v:Value} {cs:List Value} (h:OwnR t sz w b2 v n cs): ∃sa c,v= .slice sa n c∧(cs= []∨ ∃G,sa=some ⟨G,0,none⟩∧v.ownBlock=some G∧w.rangeAt G 0 cs):=by
 obtain ⟨h1,h2⟩:=h
 rcases h2 with ⟨rfl,h2⟩|⟨G,cap,cur,rfl,h3,h4,h5,h6,h7,h8⟩
 ·refine ⟨none,0,by rw [h2],.inl ?_⟩
  rw [h2,Nat.zero_mul] at h1
  exact List.length_eq_zero_iff.1 h1
 ·refine ⟨_,cap,rfl,.inr ⟨G,rfl,rfl,fun i y hy=> ?_⟩⟩
  have hlt:i<cs.length:=(List.getElem?_eq_some_iff.1 hy).1
  rw [←h8] at hy
  rw [List.getElem?_take_of_lt (by omega)] at hy
  simp only [World.cell?,h4,Nat.zero_add]
  simpa using hy
structure Tryz.Pt where
 at0:Int
 a:Int
 ln:Int
 f:Int
 nx:Int
def Tryz.Pt.cells (p:Pt):List Value:= [.int .i64 p.at0,.int .u64 p.a,.int .u32 p.ln,.int .u16 p.f,.int .u16 p.nx]
def Tryz.zc6 (ps:List Pt):List Value:=ps.flatMap Pt.cells
def Tryz.zJe (n k i e x9 x10:Int) (x:Sg) (iv sv ov:Value):Val:=vof [n,k,i,x.at1,x.len,0,0,e,0,x9,x10] [x.wr] [iv,sv,ov]
structure Tryz.SpD (ρ:Val) (n k i e x9 x10:Int) (x:Sg) (iv sv ov:Value):Prop where
 d0:(lnv 0).den ρ=n
 d1:(lnv 1).den ρ=k
 d2:(lnv 2).den ρ=i
 d3:(u64v 3).den ρ=x.at1
 d4:(u32v 4).den ρ=x.len
 i7:ρ.i 7=e
 i9:ρ.i 9=x9
 i10:ρ.i 10=x10
 b0:ρ.b 0=x.wr
 v0:ρ.v 0=iv
 v1:ρ.v 1=sv
 v2:ρ.v 2=ov
theorem Tryz.spD {n k i e x9 x10:Int} {x:Sg} {iv sv ov:Value} (hn:0≤n∧n<64000) (hk:0≤k∧k<64000) (hi:0≤i∧i<64000) (hx:x.ok):SpD (zJe n k i e x9 x10 x iv sv ov) n k i e x9 x10 x iv sv ov:=
 ⟨zat hn.1 (by show n<_;omega),zat hk.1 (by show k<_;omega),zat hi.1 (by show i<_;omega),zaG hx.1 hx.2.1,zbx hx.2.2.1 hx.2.2.2,rfl,rfl,rfl,rfl,rfl,rfl,rfl⟩
theorem Tryz.zJN:(⟨0,1,false⟩:Sg).ok:=⟨by decide,by decide,by decide,by decide⟩
def Tryz.zbv (l:List Sg):Int:=if zaU l=0∧l.length=0 then 2 else zaU l
theorem Tryz.zBa {A:Nat→Prop} {w:World} {v:Value} {l:List Sg} (h:SegV A w v l) (hl:l.length≤60000):
  Calls prog 54 #[v] w fun e w'=>e= .returned (.int .i64 (zbv l))∧Below w.heap.size w w':=by
 have h0:=h
 obtain ⟨sa,c,rfl,hok,hr⟩:=h
 obtain ⟨F0,hF0,hF1⟩:=zdF h0
 have D:=spD (n:=l.length) (k:=0) (i:=0) (e:=zaU l) (x9:=0) (x10:=0) (x:=⟨0,1,false⟩) (iv:=undef) (sv:= .slice sa l.length c) (ov:=undef) (by omega) (by omega) (by omega) zJN
 generalize zJe l.length 0 0 (zaU l) 0 0 ⟨0,1,false⟩ undef (.slice sa l.length c) undef=ρ at D
 refine Calls.mono (zaD (ρ:=ρ) (K:=fun _=>False) (g:=segG sa l) (bl:= []) (vals:= [.slice sa l.length c]) mixed zzx zFy (fun b h=>h.elim) trivial trivial ⟨F0,hF0,hF1⟩
  ⟨zaw (Dw.enters_of (by kernel_rfl)) (by decide) [.slice sa l.length c] (.int .i64 (zaU l)) (fun j=>zab (zi2 D.v1 D.d0) RL.nil) (fun j=>zac D.i7) fun w F q h=>zuu (SegF.v h hok c),trivial⟩ (zab (zi2 D.v1 D.d0) RL.nil) (zae.2 trivial)) fun e w' hh=> ?_
 obtain ⟨p,hpm,hto,lf,hlf,j,he⟩:=hh
 have hb:=zar he (fun _ h=>h)
 unfold zzy at hpm
 simp only [List.mem_cons,List.not_mem_nil,or_false] at hpm
 unfold zbv
 rcases hpm with rfl|rfl|rfl
 all_goals
  simp only [zaa,zae,zbj,zaM,zad,D.i7,D.d0,beq_iff_eq,beq_eq_false_iff_ne,ne_eq,and_true] at hto
  cases hlf
 ·rw [if_pos ⟨hto.1,by omega⟩];exact ⟨he.ret,hb⟩
 ·rw [if_neg (by omega)];exact ⟨he.ret.trans (by simp only [AV.val,zaM,D.i7]),hb⟩
 ·rw [if_neg (fun h=>hto h.1)];exact ⟨he.ret.trans (by simp only [AV.val,zaM,D.i7]),hb⟩
def Tryz.bytesOf (v:Int) (n:Nat):List Int:=(List.range n).map fun i=>v/2^(8*i)%256
theorem Tryz.zrH (v:Int) (n:Nat):bytesOf v (n+1)=bytesOf v n++ [v/2^(8*n)%256]:=by simp [bytesOf,List.range_succ]
theorem Tryz.zbQ (v:Int) (n:Nat):(bytesOf v n).length=n:=by simp [bytesOf]
theorem Tryz.ztA (v:Int) (n:Nat): ∀x∈bytesOf v n,0≤x∧x<256:=fun x hx=>by
 obtain ⟨i,_,rfl⟩:=List.mem_map.1 hx
 exact ⟨Int.emod_nonneg _ (by decide),Int.emod_lt_of_pos _ (by decide)⟩
def Tryz.zbK (xs:List Int):List Value:=xs.map fun x=> .int .u8 x
theorem Tryz.zJU:(prog.info? 5).map (fun i=>(i.zero,i.size,i.bytes))=some (some (.int .u8 0),1,1):=by kernel_rfl
set_option maxRecDepth 100000 in
theorem Tryz.zDd {w:World} {b2:Nat} {b:Value} {xs:List Int} {v:Int} {n:Nat} (h:OwnR 5 1 w b2 b xs.length (zbK xs)) (hb2:b2≤w.heap.size) (hn:n≤8) (hx:xs.length≤10000):
    Calls prog 80 #[b,.int .u64 v,.int .i64 n] w fun e w'=> ∃u,e= .returned u∧OwnR 5 1 w' b2 u (xs++bytesOf v n).length (zbK (xs++bytesOf v n))∧Below b2 w w'∧Dw.Mv (fun y=>b.ownBlock=some y) w w'∧(∀y,u.ownBlock=some y→b.ownBlock=some y∨w.heap.size≤y):=by
  have hinfo:=zJU
  cases hi:prog.info? 5 with
  | none=>rw [hi] at hinfo;cases hinfo
  | some i=>
  rw [hi] at hinfo
  simp only [Option.map_some,Option.some.injEq,Prod.mk.injEq] at hinfo
  obtain ⟨i1,i2,i3⟩:=hinfo
  go_enter func80,ntmps80
  go_wp2
  go_loopw [0,7] (fun c k wr=> ∃(q:Nat) (cv:Value),cv=c∧q≤n∧k= .int .i64 q∧OwnR 5 1 wr b2 cv (xs++bytesOf v q).length (zbK (xs++bytesOf v q))∧Below b2 w wr∧Dw.Mv (fun y=>b.ownBlock=some y) w wr∧(∀y,cv.ownBlock=some y→b.ownBlock=some y∨w.heap.size≤y)) (fun _ k _=>n-(RowKit.intOf k).toNat)
  case atStart=>exact ⟨0,_,rfl,Nat.zero_le _,rfl,by simpa [bytesOf] using h,Below.refl _ _,Dw.Mv.refl _ _,fun y hy=> .inl hy⟩
  case round=>
    obtain ⟨q,cv,hcv,hq,rfl,ho,hb,hm,hown⟩:=hrel
    subst hcv
    by_cases hqn:q<n
    · have hw8:=wrap_u8 (v/2^(8*q))
      have hsz:=hb.size
      have hol:=OwnR.lt ho
      have ho2: ∀t,(wr.alloc (.cells #[.int .u8 (v/2^(8*q)%256)] t)).ownsRow b2 5 1 cv (xs++bytesOf v q).length (zbK (xs++bytesOf v q)):=fun t=>OwnR.kept ho fun b e=>(MapKept.heap_alloc _ _).2 _ (hol b e).2
      have hnew: ∀t j u,([Value.int .u8 (v/2^(8*q)%256)]:List Value)[j]? =some u→(wr.alloc (.cells #[.int .u8 (v/2^(8*q)%256)] t)).cell? ((⟨wr.heap.size,0,none⟩:Addr).add j)=some u:=fun t j u hu=>by
        rw [Dw.addr_add]
        exact (Cl.new wr #[.int .u8 (v/2^(8*q)%256)] t).cell (0+j) u (by rw [Nat.zero_add];exact hu)
      have hlen:(xs++bytesOf v q).length≤10010:=by rw [List.length_append,zbQ];omega
      go_wp2_with (first
        | (at_builtin;go_loud (refine wpList_append_own_at _ rfl _ _ 55 rfl b2 5 i _ 1 1 (by kernel_rfl) hi i1 i2 i3 rfl (by decide) cv _ (zbK (xs++bytesOf v q)) rfl (ho2 _) ⟨wr.heap.size,0,none⟩ 1 1 [.int .u8 (v/2^(8*q)%256)] rfl rfl (hnew _) (by intro y hy;rw [List.mem_singleton] at hy;subst hy;rfl) (by unfold maxLen;omega) (by omega) (by simp;omega) ?_);intro u w' h2 h3 h4 h5;go_frame)
        | go_in)
      refine ⟨⟨q+1,u,rfl,by omega,by push_cast;rfl,?_,?_,?_,?_⟩,by simp only [RowKit.intOf];omega⟩
      · have e1:xs++bytesOf v (q+1)=(xs++bytesOf v q)++ [v/2^(8*q)%256]:=by rw [zrH,List.append_assoc]
        have e2:zbK (xs++bytesOf v (q+1))=zbK (xs++bytesOf v q)++ [.int .u8 (v/2^(8*q)%256)]:=by rw [e1];simp [zbK]
        rw [e2,e1,List.length_append]
        exact h2
      · have hsz2:=h3.size
        simp only [za8] at hsz2
        exact ⟨h3.os.trans hb.os,h3.tape.trans hb.tape,h3.output.trans hb.output,by omega,fun y hy=>(h3.block y (by simp only [za8];omega) (fun e=>by have:=(hol y e.symm).1;omega)).trans (((MapKept.heap_alloc _ _).2 y (by omega)).trans (hb.block y hy))⟩
      · have hsz2:=h3.size
        simp only [za8] at hsz2
        have hms:=hm.size
        exact ⟨h3.os.trans hm.os,h3.tape.trans hm.tape,h3.output.trans hm.output,by omega,fun y hy hn=>(h3.block y (by simp only [za8];omega) (fun e=>by
          rcases hown y e.symm with h|h
          · exact hn h
          · omega)).trans (((MapKept.heap_alloc _ _).2 y (by omega)).trans (hm.block y hy hn))⟩
      · intro y hy
        have hms:=hm.size
        rcases h5 with h5|h5
        · exact hown y (h5▸hy)
        · rw [hy] at h5;cases h5;right;simp only [za8];omega
    · have hqq:q=n:=by omega
      subst hqq
      go_wp2
      go_ret
      exact ⟨_,rfl,ho,hb,hm,hown⟩
def Tryz.rbE (k:Nat) (s:AV) (e:SE) (n:Int):Ent:=⟨80,[s,.int .u64 e,.int .i64 (.lit n)],k,k+2,1,.opq (k+2) none,k+1⟩
def Tryz.zJs:List Ent:= [rbE 0 .nils (u64v 3) 8,rbE 1 (.opq 2 none) (u32v 4) 4,rbE 2 (.opq 3 none) (u16v 5) 2,rbE 3 (.opq 4 none) (u16v 6) 2]
def Tryz.rbG (b2:Nat) (L:Nat→List Int):Gho where
 fact k q F w:=match k with|0=>True|k+1=> ∃u,q (k+2)=some u∧OwnR 5 1 w b2 u (L (k+1)).length (zbK (L (k+1)))∧ ∀b,u.ownBlock=some b→F b
 loc:=fun k q q' F w w' h hq hb hs=>by
  match k,h with
  | 0,_=>trivial
  | k+1,⟨u,h7,h8,h9⟩=>exact ⟨u,hq _ _ h7,OwnR.kept h8 fun b e=>hb b (h9 b e),h9⟩
theorem Tryz.zuH {ρ:Val} {w0:World} {K:Nat→Prop} {L:Nat→List Int} {k n:Nat} {s:AV} {e:SE} (hs:(k=0∧s= .nils)∨(0<k∧s= .opq (k+1) none)) (h0:L 0= []) (hL:L (k+1)=L k++bytesOf (e.den ρ) n) (hn:n≤8) (hl:(L k).length≤10000):
  zaQ prog ρ w0 K (rbG w0.heap.size L) (rbE k s e n):=by
 refine ⟨Dw.enters_of (by kernel_rfl),fun j w1 vals F m hv hnone hb hF hsz hf _=> ?_⟩
 have hb:m=k+2:=hb (by show (1:Nat)≠0;decide)
 subst hb
 obtain ⟨us,_,rfl,hus,hv⟩:=hv
 obtain ⟨x1,_,rfl,e1,hv⟩:=hv
 obtain ⟨x2,_,rfl,e2,hv⟩:=hv
 have hv:_= []:=hv
 subst hv
 have e1:x1= .int .u64 (e.den ρ):=e1
 have e2:x2= .int .i64 (n:Int):=e2
 subst e1 e2
 have hown:OwnR 5 1 w1 w0.heap.size us (L k).length (zbK (L k))∧ ∀b,us.ownBlock=some b→F b:=by
  rcases hs with ⟨rfl,rfl⟩|⟨hk,rfl⟩
  ·have:us= .slice none 0 0:=hus
   subst this
   rw [h0]
   exact ⟨OwnR.nil _ _ _ _,fun b h=>by cases h⟩
  ·obtain ⟨k',rfl⟩: ∃k',k=k'+1:=⟨k-1,by omega⟩
   obtain ⟨u,hq,ho,hF'⟩:=hf
   have:us=u:=by
    obtain ⟨⟨Lq,hj,hu⟩,_⟩:=hus
    unfold opqs at hq
    rw [hj] at hq
    simp only [Option.bind_some] at hq
    rw [hu] at hq
    injection hq
   subst this
   exact ⟨ho,hF'⟩
 obtain ⟨hown,hFo⟩:=hown
 refine Calls.mono (zDd (v:=e.den ρ) hown hsz hn hl) fun en w' hh=> ?_
 obtain ⟨u,rfl,hu,hbl,hmv,hou⟩:=hh
 rw [←hL] at hu
 refine ⟨_,[u],fun b=>F b∨u.ownBlock=some b,rfl,rfl,⟨⟨⟨0,0,0,some u⟩,?_,rfl⟩,OwnR.one hu,fun _ h=>(by cases h)⟩,⟨u,zbY,hu,fun b hb=> .inr hb⟩,?_,hmv.mono fun b hb=>⟨hFo b hb,.inl (OwnR.lt hown b hb).1⟩⟩
 ·show jq j (k+2) _ (k+2)=_
  unfold jq
  rw [if_pos ⟨Nat.le_refl _,by simp⟩]
  simp
 ·rintro b (hb|hb)
  ·exact ⟨Nat.lt_of_lt_of_le (hF b hb) hmv.size,.inl hb⟩
  ·refine ⟨(OwnR.lt hu b hb).2,?_⟩
   rcases hou b hb with h|h
   ·exact .inl (hFo b h)
   ·exact .inr h
def Tryz.Pt.bytes (p:Pt):List Int:=bytesOf p.a 8++bytesOf p.ln 4++bytesOf p.f 2++bytesOf p.nx 2
theorem Tryz.Pt.bytes_len (p:Pt):p.bytes.length=16:=by simp [Pt.bytes,zbQ]
theorem Tryz.Pt.bytes_bnd (p:Pt): ∀x∈p.bytes,0≤x∧x<256:=fun x hx=>by
 unfold Pt.bytes at hx
 rw [List.mem_append,List.mem_append,List.mem_append] at hx
 rcases hx with ((h|h)|h)|h<;>exact ztA _ _ x h
structure Tryz.Pt.ok (p:Pt):Prop where
 a:0≤p.a∧p.a<18446744073709551616
 ln:0≤p.ln∧p.ln<4294967296
 f:0≤p.f∧p.f<65536
 nx:0≤p.nx∧p.nx<65536
theorem Tryz.zk3 (ps:List Pt):(zc6 ps).length=5*ps.length:=by
 induction ps with
 | nil=>rfl
 | cons p ps ih=>simp only [zc6,List.flatMap_cons,List.length_append,List.length_cons] at ih ⊢;rw [ih];simp [Pt.cells];omega
theorem Tryz.zjk: ∀(ps:List Pt) (k:Nat) (hk:k<ps.length) (j:Nat),j<5→(zc6 ps)[5*k+j]? =ps[k].cells[j]?
 | p::ps,0,_,j,hj=>by
  simp only [zc6,List.flatMap_cons,Nat.mul_zero,Nat.zero_add,List.getElem_cons_zero]
  rw [List.getElem?_append_left (by simp [Pt.cells];omega)]
 | p::ps,k+1,hk,j,hj=>by
  have:=zjk ps k (by simpa using hk) j hj
  simp only [zc6,List.flatMap_cons,List.getElem_cons_succ] at this ⊢
  rw [List.getElem?_append_right (by simp [Pt.cells];omega),←this]
  congr 1
  simp [Pt.cells];omega
theorem Tryz.zDt {w:World} {G o:Nat} {ps:List Pt} (h:w.rangeAt G o (zc6 ps)) (k:Nat) (hk:k<ps.length):w.rangeAt G (o+5*k) ps[k].cells:=fun j v hv=>by
 have hj:j<5:=by
  have:=(List.getElem?_eq_some_iff.1 hv).1
  simpa [Pt.cells] using this
 have:=h (5*k+j) v (by rw [zjk ps k hk j hj];exact hv)
 rw [show o+5*k+j=o+(5*k+j) by omega]
 exact this
def Tryz.zcx (d:Int) (ps:List Pt) (g:Nat→Int):Nat→Int:=ps.foldl (fun g p=>putL g (d+16*p.at0).toNat p.bytes) g
theorem Tryz.zwU (d:Int) (ps:List Pt) (p:Pt) (g:Nat→Int):zcx d (ps++ [p]) g=putL (zcx d ps g) (d+16*p.at0).toNat p.bytes:=by simp [zcx]
def Tryz.memC (P L Bs B N:Nat) (gk:Nat→Nat→Int) (C:Gho):Gho where
 fact k q F w:=(F P∧F L∧F Bs∧F B∧GM w P L Bs B N (gk k))∧C.fact k q F w
 loc:=fun k q q' F w w' h hq hb hs=>by
  obtain ⟨⟨h1,h2,h3,h4,h6⟩,h7⟩:=h
  exact ⟨⟨h1,h2,h3,h4,h6.kept (fun b _ hb'=>by rcases hb' with rfl|rfl|rfl|rfl<;>exact hb _ (by assumption)) hs⟩,C.loc k q q' F w w' h7 hq hb hs⟩
def Tryz.byC (b2:Nat) (xs:List Int):Gho where
 fact k q F w:=match k with|1=> ∃u,q 3=some u∧OwnR 5 1 w b2 u xs.length (zbK xs)∧ ∀b,u.ownBlock=some b→F b|_=>True
 loc:=fun k q q' F w w' h hq hb hs=>by
  match k,h with
  | 0,_=>trivial
  | 1,⟨u,h7,h8,h9⟩=>exact ⟨u,hq _ _ h7,OwnR.kept h8 fun b e=>hb b (h9 b e),h9⟩
  | k+2,_=>trivial
def Tryz.okPt0:Pt:=⟨0,0,0,0,0⟩
theorem Tryz.zvy:okPt0.ok:=⟨by decide,by decide,by decide,by decide⟩
theorem Tryz.zpq {w:World} {L:Dw.Loc} {vals:List Value} (h:Row w L vals):w.rangeAt L.blk L.off vals:=fun i v hv=>by
 obtain ⟨arr,e,fr,h1,h2⟩:=h
 simp only [World.cell?,h1]
 exact h2 i v hv
theorem Tryz.zf7 {w:World} {L:Dw.Loc} {ρ:Val} {j:J} {K:Nat→Prop} {g:Gho} {row:List AV} {vals:List Value} (h:Row w L vals) (h0:vals≠ []) (hr:RL ρ j row vals) (hK: ¬K L.blk):ShOk ρ j (cxOf w K g) (L.blk,L.off) (.ro row):=zba (zpq h) h0 hr hK
end Go.Proofs
namespace Go.Proofs
open Go.Dw Go.RowKit
theorem Tryz.zwV {g:Nat→Int} {a k j:Nat} {v:Int} (h:putW g a k v j≠g j):a≤j∧j<a+k:=by
 unfold putW at h
 by_cases hh:a≤j∧j<a+k
 ·exact hh
 ·rw [if_neg hh] at h;exact absurd rfl h
theorem Tryz.zcY {g:Nat→Int} {a:Nat} {v:Int}: ∀ {n:Nat},0≤v→(∀i,i<n→g (a+i)=v/2^(8*i)%256)→zah g a n=v%256^n
 | 0,_,_=>by simp [zah,Int.emod_one]
 | n+1,h0,h=>by
  have ih:=zcY (n:=n) h0 fun i hi=>h i (by omega)
  unfold zah
  rw [ih,h n (by omega)]
  have e:(2:Int)^(8*n)=256^n:=by rw [Int.pow_mul];rfl
  rw [e]
  have hp:(0:Int)<256^n:=Int.pow_pos (by decide)
  have h1:=Int.emod_add_mul_ediv v (256^n)
  have h2:=Int.emod_add_mul_ediv (v/256^n) 256
  have h3:=Int.emod_add_mul_ediv v (256^(n+1))
  have h4:v/256^(n+1)=v/256^n/256:=by
   rw [Int.pow_succ,Int.ediv_ediv_of_nonneg (by omega)]
  rw [h4] at h3
  have h5:(256:Int)^(n+1)=256^n*256:=Int.pow_succ ..
  rw [h5] at h3 ⊢
  have h6:(256:Int)^n*256*(v/256^n/256)=256^n*(256*(v/256^n/256)):=by rw [Int.mul_assoc]
  have h7:(256:Int)^n*(v/256^n)=256^n*(v/256^n%256)+256^n*(256*(v/256^n/256)):=by rw [←Int.mul_add,h2]
  have h8:v/256^n%256*256^n=256^n*(v/256^n%256):=Int.mul_comm ..
  rw [h8]
  omega
theorem Tryz.zog {g g':Nat→Int} {a:Nat}: ∀ {n:Nat},(∀i,i<n→g' (a+i)=g (a+i))→zah g' a n=zah g a n
 | 0,_=>rfl
 | n+1,h=>by
  unfold zah
  rw [zog (n:=n) fun i hi=>h i (by omega),h n (by omega)]
theorem Tryz.zm9 {g:Nat→Int} {a n:Nat} {v:Int} (h0:0≤v):zah (putW g a n v) a n=v%256^n:=
 zcY h0 fun i hi=>by
  unfold putW
  rw [if_pos ⟨by omega,by omega⟩,Nat.add_sub_cancel_left]
theorem Tryz.zcD {g:Nat→Int} {a n b m:Nat} {v:Int} (h:a+n≤b∨b+m≤a):zah (putW g b m v) a n=zah g a n:=
 zog fun i hi=>by
  unfold putW
  rw [if_neg (by omega)]
structure Tryz.PtAt (g:Nat→Int) (a:Nat) (p:Pt):Prop where
 w: ∀i,i<16→g (a+i)=p.bytes.getD i 0
theorem Tryz.zds (v:Int) (n i:Nat) (h:i<n):(bytesOf v n).getD i 0=v/2^(8*i)%256:=by
 simp [bytesOf,h]
theorem Tryz.PtAt.words {g:Nat→Int} {a:Nat} {p:Pt} (h:PtAt g a p) (hp:p.ok):zah g a 8=p.a∧zah g (a+8) 4=p.ln∧zah g (a+12) 2=p.f∧zah g (a+14) 2=p.nx:=by
 have L8:=zbQ p.a 8
 have L4:=zbQ p.ln 4
 have L2:=zbQ p.f 2
 have M2:=zbQ p.nx 2
 have b: ∀i,i<16→p.bytes.getD i 0=if i<8 then p.a/2^(8*i)%256 else if i<12 then p.ln/2^(8*(i-8))%256 else if i<14 then p.f/2^(8*(i-12))%256 else p.nx/2^(8*(i-14))%256:=fun i hi=>by
  unfold Pt.bytes
  simp only [List.getD_eq_getElem?_getD]
  by_cases h1:i<8
  ·rw [if_pos h1,List.getElem?_append_left (by simp only [List.length_append,L8,L4,L2];omega),List.getElem?_append_left (by simp only [List.length_append,L8,L4];omega),List.getElem?_append_left (by omega),←List.getD_eq_getElem?_getD,zds _ _ _ h1]
  ·rw [if_neg h1]
   by_cases h2:i<12
   ·rw [if_pos h2,List.getElem?_append_left (by simp only [List.length_append,L8,L4,L2];omega),List.getElem?_append_left (by simp only [List.length_append,L8,L4];omega),List.getElem?_append_right (by omega),L8,←List.getD_eq_getElem?_getD,zds _ _ _ (by omega)]
   ·rw [if_neg h2]
    by_cases h3:i<14
    ·rw [if_pos h3,List.getElem?_append_left (by simp only [List.length_append,L8,L4,L2];omega),List.getElem?_append_right (by simp only [List.length_append,L8,L4];omega),←List.getD_eq_getElem?_getD]
     simp only [List.length_append,L8,L4]
     rw [show i-(8+4)=i-12 by omega,zds _ _ _ (by omega)]
    ·rw [if_neg h3,List.getElem?_append_right (by simp only [List.length_append,L8,L4,L2];omega),←List.getD_eq_getElem?_getD]
     simp only [List.length_append,L8,L4,L2]
     rw [show i-(8+4+2)=i-14 by omega,zds _ _ _ (by omega)]
 refine ⟨?_,?_,?_,?_⟩
 ·rw [zcY hp.a.1 fun i hi=>by rw [h.w i (by omega),b i (by omega),if_pos hi]]
  exact Int.emod_eq_of_lt hp.a.1 (by have:=hp.a.2;simpa using this)
 ·rw [zcY hp.ln.1 fun i hi=>by rw [Nat.add_assoc,h.w (8+i) (by omega),b (8+i) (by omega),if_neg (by omega),if_pos (by omega),Nat.add_sub_cancel_left]]
  exact Int.emod_eq_of_lt hp.ln.1 (by have:=hp.ln.2;simpa using this)
 ·rw [zcY hp.f.1 fun i hi=>by rw [Nat.add_assoc,h.w (12+i) (by omega),b (12+i) (by omega),if_neg (by omega),if_neg (by omega),if_pos (by omega),Nat.add_sub_cancel_left]]
  exact Int.emod_eq_of_lt hp.f.1 (by have:=hp.f.2;simpa using this)
 ·rw [zcY hp.nx.1 fun i hi=>by rw [Nat.add_assoc,h.w (14+i) (by omega),b (14+i) (by omega),if_neg (by omega),if_neg (by omega),if_neg (by omega),Nat.add_sub_cancel_left]]
  exact Int.emod_eq_of_lt hp.nx.1 (by have:=hp.nx.2;simpa using this)
theorem Tryz.zzH {d:Int} (hd:0≤d): ∀ {ps:List Pt} {g:Nat→Int},(ps.map (·.at0)).Nodup→(∀p∈ps,0≤p.at0)→
  (∀ p∈ps,PtAt (zcx d ps g) (d+16*p.at0).toNat p)∧(∀j:Nat,(∀p∈ps,(j:Int)<d+16*p.at0∨d+16*p.at0+16≤(j:Int))→zcx d ps g j=g j)
 | [], g,_,_=>⟨fun p hp=>(by cases hp),fun j _=>rfl⟩
 | q::ps,g,hn,h0=>by
  rw [List.map_cons,List.nodup_cons] at hn
  have hq:=h0 q (List.mem_cons_self ..)
  obtain ⟨i1,i2⟩:=zzH hd (ps:=ps) (g:=putL g (d+16*q.at0).toNat q.bytes) hn.2 fun p hp=>h0 p (List.mem_cons_of_mem _ hp)
  have e:zcx d (q::ps) g=zcx d ps (putL g (d+16*q.at0).toNat q.bytes):=rfl
  have hql:=Pt.bytes_len q
  have hap: ∀p∈ps,p.at0≠q.at0:=fun p hp hh=>hn.1 (hh▸List.mem_map_of_mem hp)
  rw [e]
  refine ⟨fun p hp=> ?_,fun j hj=> ?_⟩
  ·rcases List.mem_cons.1 hp with rfl|hp
   ·refine ⟨fun i hi=> ?_⟩
    rw [i2 _ fun p' hp'=> ?_,znl,if_pos ⟨by omega,by omega⟩,Nat.add_sub_cancel_left]
    have h1:=hap p' hp'
    have h2:=h0 p' (List.mem_cons_of_mem _ hp')
    omega
   ·exact i1 p hp
  ·rw [i2 j fun p hp=>hj p (List.mem_cons_of_mem _ hp),znl,if_neg]
   have:=hj q (List.mem_cons_self ..)
   omega
theorem Tryz.SegV.set {A A':Nat→Prop} {w:World} {v:Value} {l:List Sg} (h:SegV A w v l) (hA: ∀b,b<w.heap.size→A' b→A b):SegV A' w v l:=by
 obtain ⟨sa,c,e,hok,hr⟩:=h
 refine ⟨sa,c,e,hok,?_⟩
 by_cases h0:l= []
 ·exact .inl h0
 ·rcases hr with hr|⟨R,o,e1,h1,h2⟩
  ·exact .inl hr
  ·exact .inr ⟨R,o,e1,fun h=>h1 (hA R (zcF h2 h0) h),h2⟩
def Tryz.AF (S M B:Nat) (F:Nat→Prop) (w:World) (b:Nat):Prop:=b<w.heap.size∧(¬F b∨b=S∨b=M∨b=B)
open Go.Maps Go.Sort
structure Tryz.LwR where
 q:Option Nat
 v:Value
 sz:Nat
 n:Nat
 cs:List Value
def Tryz.LwR.is (e:LwR) (q:Nat→Option Value) (u:Value):Prop:=match e.q with|some n=>q n=some u|none=>u=e.v
section
variable {X:Nat→Prop} {bX:Nat} {ρ:Val} {w0:World} {K:Nat→Prop} {S P L Bs B M N:Nat} {r:Tryz.Rg} {b2:Nat} {sk:Nat→Tryz.SS} {gk:Nat→Nat→Int} {rows:Nat→List Tryz.LwR} {f:FuncId} {args:List AV} {res:AV} {k k':Nat}
end
end Go.Proofs
namespace Go.Proofs
open Go.Dw Go.RowKit Go.Maps Go.Sort
theorem Tryz.zeq {ρ:Val} {j:J}: ∀ {x:AV} {v:Value},(match x with| .int _ _=>true| .ptr _ _=>true| .cst _ _=>true| .opq _ _=>true| .sx _ _ _ _=>true|_=>false)=true→Dw.R ρ j x v→v.oneCell'=true
 | .int _ _,_,_,h=>by rw [show _=_ from h];rfl
 | .ptr _ _,_,_,⟨_,_,h⟩=>by rw [h];rfl
 | .cst _ _,_,_,h=>h.2.1
 | .opq _ _,_,_,h=>h.2.1
 | .sx _ _ _ _,_,_,⟨_,_,_,_,h,_⟩=>by rw [h];rfl
theorem Tryz.zkp {j:J} {n:Nat} {qs:List Value} (h: ∀k,n≤k→j k=none):Sub j (jq j n qs):=fun m L e=>by
 unfold jq
 rw [if_neg (fun hh=>by rw [h m hh.1] at e;cases e)]
 exact e
theorem Tryz.zIa:(prog.info? 3).map (fun i=>(i.zero,i.size,i.bytes))=some (some (.int .i64 0),1,8):=by kernel_rfl
section
variable {ρ:Val} {w0:World} {K:Nat→Prop} {X:Nat→Prop} {bX:Nat} {S P L Bs B M N:Nat} {r:Tryz.Rg} {b2:Nat} {sk:Nat→Tryz.SS} {gk:Nat→Nat→Int} {rows:Nat→List Tryz.LwR} {k k' q:Nat}
end
end Go.Proofs
namespace Go.Proofs
open Go.Dw Go.RowKit Go.Maps Go.Sort Go.Deep
theorem Tryz.zsp {fn:Func} {p u:Tmp} {ty:TypeId} (h:fn.results= #[.cell p ty,.tmp u]) (tmps:Array Value) (w:World) (b:Nat) (cs:List Value) (d:TypeDesc)
  (hp:tmps.getD p undef= .pointer (some ⟨b,0,none⟩)) (hg:w.rangeAt b 0 cs) (hu:prog.underlying ty=some d) (hd:d.isRow=true) (hi:(prog.info? ty).map (·.size)=some cs.length):
  (results fn tmps).run prog w= .ok (.tuple #[.agg cs.toArray,tmps.getD u undef]) w:=by
 have hp':tmps[p]?.getD undef= .pointer (some ⟨b,0,none⟩):=by simpa using hp
 simp [results,h,hp',asAddr,run_loadVar_mid w b 0 ty cs d hg hu hd hi]
theorem Tryz.zvW {N:Nat} {A n:Int} (hn:0≤n):((entN N A n).2=0∧1≤(entN N A n).1∧(entN N A n).1≤64∧A+16*(entN N A n).1≤N)∨(((entN N A n).2=4∨(entN N A n).2=5)∧(entN N A n).1=0):=by
 unfold entN
 by_cases h1:n=0∨ ¬n%16=0∨64<n/16
 ·rw [if_pos h1];exact .inr ⟨.inl rfl,rfl⟩
 ·rw [if_neg h1]
  by_cases h2:A+n≤N
  ·rw [if_pos h2]
   left
   show (0:Int)=0∧1≤n/16∧n/16≤64∧A+16*(n/16)≤N
   omega
  ·rw [if_neg h2];exact .inr ⟨.inr rfl,rfl⟩
theorem Tryz.zAV {g:Nat→Int} (hg: ∀j,0≤g j∧g j<256) (a:Nat):(pSeg g a).ok:=
 ⟨(zbF g hg a 8).1,(zbF g hg a 8).2,(zbF g hg (a+8) 4).1,(zbF g hg (a+8) 4).2⟩
theorem Tryz.znp {w:World} {P L Bs B N:Nat} {g:Nat→Int} {b2 W0:Nat} {v:Value} {l:List Sg} {a:Nat} {l3:List Sg} {q1 q2 q3:Nat} {bl:List (Nat×Nat)} (st:GM w P L Bs B N g) (ho:OwnSeg w b2 v l) (hbl: ∀x∈bl,x.1≠P∧x.1≠L∧x.1≠Bs∧x.1≠B∧v.ownBlock≠some x.1):(pkG P L Bs B N g b2 W0 v l a l3 q1 q2 q3).G 0 (jOf bl) w:=by
 refine ⟨fun b=>b=P∨b=L∨b=Bs∨b=B∨v.ownBlock=some b,fun b hb=>⟨?_,fun hm=> ?_⟩,⟨.inl rfl,.inr (.inl rfl),.inr (.inr (.inl rfl)),.inr (.inr (.inr (.inl rfl))),st⟩,ho,fun b hb=> .inr (.inr (.inr (.inr hb)))⟩
 ·rcases hb with rfl|rfl|rfl|rfl|hb
  ·exact st.pl
  ·exact st.ll
  ·exact st.sl
  ·exact st.bl
  ·exact (ho.lt b hb).2.1
 ·obtain ⟨x,hx,rfl⟩:=List.mem_map.1 (zdp hm)
  obtain ⟨h1,h2,h3,h4,h5⟩:=hbl x hx
  rcases hb with h|h|h|h|h
  ·exact h1 h
  ·exact h2 h
  ·exact h3 h
  ·exact h4 h
  ·exact h5 h
set_option maxRecDepth 10000 in
theorem Tryz.zwE {w:World} {P L Bs B N:Nat} {g:Nat→Int} {A n:Int} (st:GM w P L Bs B N g) (hN:N≤1048576) (h1:1≤N) (hA:0≤A∧A<18446744073709551616) (hn:0≤n∧n<4294967296):
    Calls prog 170 #[vp P,.int .u64 A,.int .u32 n] w fun e w'=> ∃u,e= .returned (.tuple #[u,.int .i64 (zbw N g A n).2])∧OwnSeg w' w.heap.size u (zbw N g A n).1∧Below w.heap.size w w':=by
  obtain ⟨RES,hRES⟩: ∃RES,zbw N g A n=RES:=⟨_,rfl⟩
  rw [hRES]
  have hent:=ztu st hN h1 hA.1 hA.2 hn.1 hn.2
  have h2:=zvW (N:=N) (A:=A) hn.1
  obtain ⟨c0,hc0⟩: ∃c:Nat,(entN N A n).1=c:=by
    rcases h2 with ⟨_,h,_⟩|⟨_,h⟩
    · exact ⟨(entN N A n).1.toNat,(Int.toNat_of_nonneg (by omega)).symm⟩
    · exact ⟨0,h⟩
  obtain ⟨e0,he0⟩: ∃e,(entN N A n).2=e:=⟨_,rfl⟩
  unfold zbw at hRES
  rw [hc0,he0] at h2 hent hRES
  have hg:=st.byte
  unfold vp
  go_enter func170,ntmps170
  go_wp2_with (first
    | (go_at_call 178;refine hent.mono ?_;rintro e w1 ⟨rfl,hb1⟩)
    | go_in)
  rename_i K hK
  have done: ∀ {a2:Act} {w2:World} {u:Value} {x:Int},a2.defers= []→a2.tmps.getD 6 undef=u→a2.tmps.getD 7 undef= .int .i64 x→x=RES.2→OwnSeg w2 w.heap.size u RES.1→Below w.heap.size w w2→
      bodyPost prog f170 (fun e w'=> ∃u,e= .returned (.tuple #[u,.int .i64 RES.2])∧OwnSeg w' w.heap.size u RES.1∧RowKit.Below w.heap.size w w') .ret a2 w2:=fun {a2 w2 u x} q1 q2 q3 q4 q5 q6=>by
    refine bodyPost_ret (v:= .tuple #[u,.int .i64 x]) ?_ q1 ⟨u,by rw [q4],q5,q6⟩
    have q2':a2.tmps[6]?.getD undef=u:=by simpa using q2
    have q3':a2.tmps[7]?.getD undef= .int .i64 x:=by simpa using q3
    simp [results,results170,q2',q3']
  have tail: ∀ {a2:Act} {w2:World} {u:Value} {x:Int},a2.tmps.size=57→a2.defers= []→a2.tmps.getD 6 undef=u→a2.tmps.getD 7 undef= .int .i64 x→x=RES.2→OwnSeg w2 w.heap.size u RES.1→Below w.heap.size w w2→K a2 w2:=fun {a2 w2 u x} z1 z2 z6 z7 z8 z9 z10=>by
    refine hK _ _ ?_
    clear hK
    obtain ⟨tmps,dfr⟩:=a2
    have z2:dfr= []:=z2
    have z1:tmps.size=57:=z1
    have z6:tmps.getD 6 undef=u:=z6
    have z7:tmps.getD 7 undef= .int .i64 x:=z7
    subst z2
    go_wp2_with fail
    refine done (u:=u) (x:=x) rfl ?_ ?_ z8 z9 z10
    · simp [z1]
    · have y:=z7
      rw [Array.getD_eq_getD_getElem?,Array.getElem?_eq_getElem (by omega)] at y
      simp [z1]
      exact y
  have hMP:=st.pl
  have hML:=st.ll
  have hMS:=st.sl
  have hMB:=st.bl
  refine zby (c':= .loop (zaK prog [0,0,1,0,1,1,170])) (by kernel_rfl) ?_
  refine zbJ (fun (x:Nat×List Sg×Value) a' w'=>x.1≤c0∧a'.tmps.size=57∧a'.defers= []∧([0,1,6,7,21,22].map fun t=>a'.tmps.getD t undef)= [vp P,.int .u64 A,x.2.2,.int .i64 e0,.int .i64 c0,.int .i64 x.1]∧OwnSeg w' w.heap.size x.2.2 x.2.1∧Below w.heap.size w w'∧x.2.1.length=x.1∧
      (e0=0→zk8 g (A+16*x.1).toNat (c0-x.1) x.2.1=RES)∧(e0≠0→RES=([],e0)))
    (fun x=>c0-x.1) (fun x a1 w1 hI=> ?_) (0,[],.slice none 0 0) _ _ ⟨Nat.zero_le _,rfl,rfl,rfl,⟨rfl,.inl ⟨rfl,rfl⟩⟩,hb1,rfl,fun h=> ?_,fun h=> ?_⟩
  · obtain ⟨i,l,v⟩:=x
    obtain ⟨hi,q0,qd,hsl,hown,hbl,hlen,hr0,hr1⟩:=hI
    simp only at hi hsl hown hlen hr0 hr1
    simp only [List.map_cons,List.map_nil,List.cons.injEq,and_true] at hsl
    obtain ⟨s0,s1,s6,s7,s21,s22⟩:=hsl
    have hone:=hown.one
    have hlt:=hown.lt
    have st1:=st.below hbl
    have slots: ∀ {ρ:Val} {ct Id F Ad Ln nx:Int} {tb wr nwr:Bool},PkD ρ P 1 A 0 0 i c0 0 Ad Ln Id F nx e0 tb wr nwr v→ ∀t∈ziH,Dw.R ρ (jOf []) t.2 (a1.tmps.getD t.1 undef):=fun {ρ ct Id F Ad Ln nx tb wr nwr} D t ht=>by
      simp only [ziH,List.mem_cons,List.not_mem_nil,or_false] at ht
      rcases ht with rfl|rfl|rfl|rfl|rfl|rfl
      · rw [s0];exact za5 D.dp rfl
      · rw [s1];exact zac D.dd
      · rw [s6];exact za5 D.dsv hone
      · rw [s7];exact zac D.de
      · rw [s21];exact zac D.dct
      · rw [s22];exact zac D.di
    have hc64:c0≤64:=by rcases h2 with ⟨_,_,h,_⟩|⟨_,h⟩<;>omega
    by_cases hic:i<c0
    · have h20:e0=0∧A+16*(c0:Int)≤N:=by rcases h2 with ⟨h,_,_,h'⟩|⟨_,h⟩;exact ⟨h,h'⟩;omega
      obtain ⟨h20,hfit⟩:=h20
      obtain ⟨a,ha⟩: ∃a:Nat,A+16*(i:Int)=a:=⟨(A+16*(i:Int)).toNat,(Int.toNat_of_nonneg (by omega)).symm⟩
      have hin:a+16≤N:=by omega
      have hrec:=hr0 h20
      rw [ha,Int.toNat_natCast,show c0-i=(c0-(i+1))+1 by omega] at hrec
      unfold zk8 at hrec
      have bA:=zbF g hg a 8
      have bL:=zbF g hg (a+8) 4
      have bI:=zbF g hg (a+12) 2
      have bF:=zbF g hg (a+14) 2
      obtain ⟨ρ,D⟩:=zvn (P:=P) (n:=1) (d:=A) (v:=0) (c:=0) (i:=i) (ct:=c0) (id:=0) (A:=zah g a 8) (Ln:=zah g (a+8) 4) (Id:=zah g (a+12) 2) (F:=zah g (a+14) 2) (nx:=0) (e:=e0) (tb:=false) (wr:=false) (nwr:=false) (sv:=v) ⟨by decide,by decide⟩ hA ⟨by decide,by decide⟩ ⟨by decide,by decide⟩ ⟨by omega,by omega⟩ ⟨by omega,by omega⟩ ⟨by decide,by decide⟩ bA bL bI bF ⟨by decide,by decide⟩
      have tlt:(SB.cmp .lss (lnv 4) (lnv 5)).den ρ=true:=by rw [zaY,D.di,D.dct];exact decide_eq_true (by omega)
      have tneq:(SB.cmp .neq (ptg 2) (.lit 0)).den ρ=decide (zah g (a+14) 2/4%2=1):=by
        rw [zcL,D.dF2,zad]
        by_cases h:zah g (a+14) 2/4%2=1
        · rw [h];rfl
        · rw [show zah g (a+14) 2/4%2=0 by omega];rfl
      have hG:(pkG P L Bs B N g w.heap.size w1.heap.size v l a [] 1 5 0).G 0 (jOf []) w1:=znp st1 hown fun x hx=>by cases hx
      by_cases hF:zah g (a+14) 2/4%2=1
      · rw [if_pos hF] at hrec
        refine wp_mono (zaz (ρ:=ρ) (K:=fun b=>v.ownBlock=some b) (g:=pkG P L Bs B N g w.heap.size w1.heap.size v l a [] 1 5 0) (bl:= []) mixed zGj zI1 (fun b hb=>(hlt b hb).2.1) trivial trivial hG
          ⟨zsB D ⟨by omega,by omega⟩ hA.1 ha hN hin,zsW D hg,trivial⟩ trivial trivial q0 qd (slots (ct:=c0) D) (zaa.2 ⟨tlt,zaa.2 ⟨tneq.trans (decide_eq_true hF),zae.2 trivial⟩⟩)) fun ex a2 w2 hh=> ?_
        obtain ⟨q,hq,hto,lf,hlf,rfl,hsz2,j2,hdf2,he⟩:=hh
        unfold zEY at hq
        simp only [List.mem_cons,List.not_mem_nil,or_false] at hq
        subst hq
        cases hlf
        have hs2:=zaB he.ret
        simp only [AV.valL,AV.val,zad,List.map_cons,List.map_nil,List.cons.injEq,and_true] at hs2
        have hmv:=he.mv
        have hb2:Below w.heap.size w w2:=⟨hmv.os.trans hbl.os,hmv.tape.trans hbl.tape,hmv.output.trans hbl.output,Nat.le_trans hbl.size hmv.size,fun b hb=>(hmv.block b (Nat.lt_of_lt_of_le hb hbl.size) fun e=>by have:=(hlt b e).1;omega).trans (hbl.block b hb)⟩
        exact done hdf2 hs2.1 hs2.2 (by rw [←hrec]) (by rw [←hrec];exact ⟨rfl,.inl ⟨rfl,rfl⟩⟩) hb2
      · rw [if_neg hF] at hrec
        refine wp_mono (zaz (ρ:=ρ) (K:=fun b=>v.ownBlock=some b) (g:=pkG P L Bs B N g w.heap.size w1.heap.size v l a [] 1 5 0) (bl:= []) mixed zGf zIZ (fun b hb=>(hlt b hb).2.1) trivial trivial hG
          ⟨zsB D ⟨by omega,by omega⟩ hA.1 ha hN hin,zsW D hg,trivial⟩ trivial ⟨znn D ⟨hMP,hML,hMS,hMB⟩ rfl hbl.size (fun b hb=>hb) (by omega),trivial⟩ q0 qd (slots (ct:=c0) D) (zaa.2 ⟨tlt,zaa.2 ⟨tneq.trans (decide_eq_false hF),zae.2 trivial⟩⟩)) fun ex a2 w2 hh=> ?_
        obtain ⟨q,hq,hto,lf,hlf,rfl,hsz2,j2,hdf2,he⟩:=hh
        unfold zEU at hq
        simp only [List.mem_cons,List.not_mem_nil,or_false] at hq
        subst hq
        cases hlf
        have hs2:=zaB he.ret
        obtain ⟨Fs,_,⟨_,_,_,_,hgm⟩,u,hq5,⟨hu,_⟩,_⟩:=he.gho
        have e5:(lcOf j2 5).q.getD undef=u:=zcN (ρ:=ρ) hq5
        have hwi:=zeu i (by omega)
        simp only [AV.valL,AV.val,zad,den_add,zaM,D.dp,D.dd,D.de,D.dct,D.di,e5,hwi] at hs2
        have hmv:=he.mv
        have hb2:Below w.heap.size w w2:=⟨hmv.os.trans hbl.os,hmv.tape.trans hbl.tape,hmv.output.trans hbl.output,Nat.le_trans hbl.size hmv.size,fun b hb=>(hmv.block b (Nat.lt_of_lt_of_le hb hbl.size) fun e=>by have:=(hlt b e).1;omega).trans (hbl.block b hb)⟩
        refine ⟨(i+1,l++ [pSeg g a],u),by simp only;omega,hic,hsz2,hdf2,hs2,hu,hb2,by simp [hlen],fun _=> ?_,fun h=>absurd h20 h⟩
        rw [←hrec]
        show zk8 g (A+16*((i+1:Nat):Int)).toNat (c0-(i+1)) (l++ [pSeg g a])=_
        rw [show (A+16*((i+1:Nat):Int)).toNat=a+16 by omega]
    · have hic:i=c0:=by omega
      obtain ⟨ρ,D⟩:=zvn (P:=P) (n:=1) (d:=A) (v:=0) (c:=0) (i:=i) (ct:=c0) (id:=0) (A:=0) (Ln:=0) (Id:=0) (F:=0) (nx:=0) (e:=e0) (tb:=false) (wr:=false) (nwr:=false) (sv:=v) ⟨by decide,by decide⟩ hA ⟨by decide,by decide⟩ ⟨by decide,by decide⟩ ⟨by omega,by omega⟩ ⟨by omega,by omega⟩ ⟨by decide,by decide⟩ ⟨by decide,by decide⟩ ⟨by decide,by decide⟩ ⟨by decide,by decide⟩ ⟨by decide,by decide⟩ ⟨by decide,by decide⟩
      refine wp_mono (zaz (ρ:=ρ) (K:=fun _=>False) (g:=Gho.none) (bl:= []) mixed zGh zI0 (fun b h=>h.elim) trivial trivial zaO trivial trivial trivial q0 qd (slots (ct:=c0) D) (zaa.2 ⟨by rw [zaY,D.di,D.dct];exact decide_eq_false (by omega),zae.2 trivial⟩)) fun ex a2 w2 hh=> ?_
      obtain ⟨q,hq,hto,lf,hlf,rfl,hsz2,j2,hdf2,he⟩:=hh
      have hb3:=zar he (fun _ h=>h)
      unfold zEW at hq
      simp only [List.mem_cons,List.not_mem_nil,or_false] at hq
      subst hq
      cases hlf
      have hs2:=zaB he.ret
      simp only [AV.valL,AV.val,D.dsv,D.de,zaM,List.map_cons,List.map_nil,List.cons.injEq,and_true] at hs2
      show K a2 w2
      have hres:RES=(l,e0):=by
        by_cases h:e0=0
        · have:=hr0 h
          rw [hic,Nat.sub_self] at this
          unfold zk8 at this
          rw [←this,h]
        · have h3:=hr1 h
          have:c0=0:=by rcases h2 with ⟨h',_⟩|⟨_,h'⟩;exact absurd h' h;omega
          have hl0:l= []:=List.length_eq_zero_iff.1 (by omega)
          rw [h3,hl0]
      exact tail hsz2 hdf2 hs2.1 hs2.2 (by rw [hres]) (by rw [hres];exact hown.kept fun b hb=>hb3.block b (hlt b hb).2.1) (hbl.trans (hb3.mono hbl.size))
  · rw [if_neg (by simpa using h)] at hRES
    show zk8 g (A+16*((0:Nat):Int)).toNat (c0-0) []=RES
    rw [←hRES,Int.toNat_natCast,show (A+16*((0:Nat):Int))=A by omega,Nat.sub_zero]
  · rw [if_pos h] at hRES
    exact hRES.symm
theorem Tryz.zAd (n a:Int) (x y:Bool) (c:Int):(zaL n a x c).1=(zaL n a y c).1:=by unfold zaL;split<;>rfl
theorem Tryz.zgm {n a c:Int} {x:Bool} (ha:0≤a∧a<n) (hc:0≤c∧c≤n):0≤(zaL n a x c).1∧(zaL n a x c).1<n:=by unfold zaL;split<;>(simp only;omega)
theorem Tryz.zHc {ρ:Val} {P L Bs B N:Nat} {n d v c i ct id nx Id F:Int} {tb wr nwr:Bool} {sv:Value} {g:Nat→Int} {b2 W0:Nat} {l:List Sg} {a q1 q2 q3:Nat} {w0:World} {K:Nat→Prop} {A Ln:Int} (hd:PkD ρ P n d v c i ct id A Ln Id F nx (zbw N g A Ln).2 tb wr nwr sv) (hN:N≤1048576) (h1:1≤N) (hA:0≤A∧A<18446744073709551616) (hL:0≤Ln∧Ln<4294967296) (hW:W0=w0.heap.size) (hb2:b2≤W0):
  zaQ prog ρ w0 K (pkG P L Bs B N g b2 W0 sv l a (zbw N g A Ln).1 q1 q2 q3) (pwiE q3):=by
 refine ⟨Dw.enters_of (by kernel_rfl),fun j w vals F n0 hv hn hb hF hsz hf _=> ?_⟩
 have hv:=zcR (show AV.exactL [.cst 0 none,.int .u64 (u64v 10),.int .u32 (u32v 11)]=true by decide) hv (zab (za5 (ρ:=ρ) (j:=j) hd.dp rfl) (zab (zac hd.dA) (zab (zac hd.dLn) RL.nil)))
 subst hv
 have hb:n0=q3:=hb (by show (1:Nat)≠0;decide)
 subst hb
 obtain ⟨⟨f1,f2,f3,f4,hm⟩,_⟩:=hf
 refine Calls.mono (zwE hm hN h1 hA hL) fun en w' hh=> ?_
 obtain ⟨u,rfl,hu,hbl⟩:=hh
 have hlt:=hu.lt
 refine ⟨_,[u],fun b=>F b∨u.ownBlock=some b,rfl,rfl,zcC (zab ⟨⟨⟨0,0,0,some u⟩,?_,rfl⟩,hu.one,fun _ h=>(by cases h)⟩ (zab (zac hd.de) RL.nil)),⟨⟨.inl f1,.inl f2,.inl f3,.inl f4,hm.below hbl⟩,u,zbY,⟨hu.mono (by omega),fun b hb=> .inr hb⟩,fun b hb=> .inr (by have:=(hlt b hb).1;omega)⟩,?_,Dw.Mv.of_below hbl⟩
 ·show jq j n0 _ n0=_
  unfold jq
  rw [if_pos ⟨Nat.le_refl _,by simp⟩]
  simp
 ·rintro b (hb|hb)
  ·exact ⟨Nat.lt_of_lt_of_le (hF b hb) hbl.size,.inl hb⟩
  ·exact ⟨(hlt b hb).2.1,.inr (hlt b hb).1⟩
set_option maxRecDepth 100000 in
theorem Tryz.zmz {w:World} {P L Bs B N:Nat} {g:Nat→Int} {r:Rg} {at0:Int} {wr tb:Bool} (st:GM w P L Bs B N g) (hN:N≤1048576) (hr:PgOk r) (hfit:4104+16*r.n≤N) (hat:0≤at0∧at0<r.n):
  Calls prog 155 #[vp P,r.pval,posV at0 wr,.bool tb] w fun e w'=> ∃u,e= .returned (.tuple #[.agg #[.int .i64 (zbM N g r.n tb r.n.toNat at0 0 [] 0).id,.int .i64 (zbM N g r.n tb r.n.toNat at0 0 [] 0).ct,u],.int .i64 (zbM N g r.n tb r.n.toNat at0 0 [] 0).e])∧
   OwnSeg w' w.heap.size u (zbM N g r.n tb r.n.toNat at0 0 [] 0).sg∧Below w.heap.size w w':=by
 obtain ⟨RES,hRES⟩: ∃RES,zbM N g r.n tb r.n.toNat at0 0 [] 0=RES:=⟨_,rfl⟩
 rw [hRES]
 unfold vp Rg.pval posV
 go_enter func155,ntmps155
 go_wp2
 rename_i K hK
 obtain ⟨⟨n1,n2⟩,hd,hv,hc⟩:=hr.nums
 have hbn:=hr.bnd
 have hd4:=hr.d
 have hg:=st.byte
 have hN1:1≤N:=by omega
 obtain ⟨nn,hnn⟩: ∃nn:Nat,r.n=nn:=⟨r.n.toNat,(Int.toNat_of_nonneg (by omega)).symm⟩
 have hMP:=st.pl
 have hML:=st.ll
 have hMS:=st.sl
 have hMB:=st.bl
 obtain ⟨R0,hR0⟩: ∃R0,R0=w.heap.size:=⟨_,rfl⟩
 obtain ⟨W1,hW1⟩: ∃W,W=w.alloc (Obj.cells #[.bool true,.int .i64 r.n,.int .u64 r.d,.int .u64 r.v,.int .u64 r.c] 31):=⟨_,rfl⟩
 have z1:W1.heap.size=R0+1:=by rw [hW1,hR0];simp
 have o1:Own W1 R0 [.bool true,.int .i64 r.n,.int .u64 r.d,.int .u64 r.v,.int .u64 r.c]:=by rw [hW1,hR0];exact zg9 w _ _
 have b1:Below R0 w W1:=by rw [hW1,hR0];exact (Below.refl _ w).alloc (Nat.le_refl _) _
 rw [←hW1]
 clear hW1
 obtain ⟨W2,hW2⟩: ∃W,W=W1.alloc (Obj.cells #[.int .i64 at0,.bool wr] 35):=⟨_,rfl⟩
 have z2:W2.heap.size=R0+2:=by rw [hW2];simp [z1]
 have o2:Own W2 (R0+1) [.int .i64 at0,.bool wr]:=by rw [hW2,←z1];exact zg9 W1 _ _
 have k2: ∀b,b<R0+1→W2.heap[b]? =W1.heap[b]? :=fun b hb=>by rw [hW2];exact heap_alloc_old W1 _ (h:=by omega)
 have b2:Below R0 w W2:=by rw [hW2];exact b1.alloc (by omega) _
 rw [←hW2]
 clear hW2
 obtain ⟨W3,hW3⟩: ∃W,W=W2.alloc (Obj.cells #[.int .i64 0,.int .i64 0,.slice none 0 0] 122):=⟨_,rfl⟩
 have z3:W3.heap.size=R0+3:=by rw [hW3];simp [z2]
 have o3:Own W3 (R0+2) [.int .i64 0,.int .i64 0,.slice none 0 0]:=by rw [hW3,←z2];exact zg9 W2 _ _
 have k3: ∀b,b<R0+2→W3.heap[b]? =W2.heap[b]? :=fun b hb=>by rw [hW3];exact heap_alloc_old W2 _ (h:=by omega)
 have b3:Below R0 w W3:=by rw [hW3];exact b2.alloc (by omega) _
 rw [←hW3]
 clear hW3
 have p2:Own W3 (R0+1) [.int .i64 at0,.bool wr]:=o2.kept (k3 _ (by omega))
 have p1:Own W3 R0 [.bool true,.int .i64 r.n,.int .u64 r.d,.int .u64 r.v,.int .u64 r.c]:=(o1.kept (k2 _ (by omega))).kept (k3 _ (by omega))
 rw [←hR0]
 clear o1 o2 k2 k3 b1 b2 z1 z2
 have done: ∀ {a2:Act} {w2:World} {u:Value} {id ct e:Int},a2.defers= []→a2.tmps.getD 8 undef= .pointer (some ⟨R0+2,0,none⟩)→a2.tmps.getD 9 undef= .int .i64 e→Own w2 (R0+2) [.int .i64 id,.int .i64 ct,u]→id=RES.id→ct=RES.ct→e=RES.e→OwnSeg w2 R0 u RES.sg→Below R0 w w2→
   bodyPost prog f155 (fun e w'=> ∃u,e= .returned (.tuple #[.agg #[.int .i64 RES.id,.int .i64 RES.ct,u],.int .i64 RES.e])∧OwnSeg w' w.heap.size u RES.sg∧RowKit.Below w.heap.size w w') .ret a2 w2:=fun {a2 w2 u id ct e} q1 q2 q3 q4 q5 q6 q7 q8 q9=>by
  refine bodyPost_ret (zsp rfl _ _ (R0+2) [.int .i64 id,.int .i64 ct,u] _ q2 (fun j v hv=>by rw [Nat.zero_add];exact zbc q4 hv) underlying122 rfl (by kernel_rfl)) q1 ⟨u,?_,hR0▸q8,hR0▸q9⟩
  rw [q3,q5,q6,q7]
 refine zby (c':= .loop (zaK prog [0,0,0,1,155])) (by kernel_rfl) ?_
 refine zbJ (fun (x:Nat×Int×Bool×List Sg×Value×Int) a' w'=>x.1≤nn∧a'.tmps.size=102∧a'.defers= []∧([0,3,5,6,8,9].map fun t=>a'.tmps.getD t undef)= [vp P,.bool tb,.pointer (some ⟨R0,0,none⟩),.pointer (some ⟨R0+1,0,none⟩),.pointer (some ⟨R0+2,0,none⟩),.int .i64 0]∧
   Own w' R0 [.bool true,.int .i64 r.n,.int .u64 r.d,.int .u64 r.v,.int .u64 r.c]∧Own w' (R0+1) [.int .i64 x.2.1,.bool x.2.2.1]∧Own w' (R0+2) [.int .i64 x.2.2.2.2.2,.int .i64 x.1,x.2.2.2.2.1]∧OwnSeg w' (R0+3) x.2.2.2.2.1 x.2.2.2.1∧Below R0 w w'∧R0+3≤w'.heap.size∧x.2.2.2.1.length=x.1∧(0≤x.2.1∧x.2.1<r.n)∧(0≤x.2.2.2.2.2∧x.2.2.2.2.2<65536)∧
   zbM N g r.n tb (nn-x.1) x.2.1 x.1 x.2.2.2.1 x.2.2.2.2.2=RES)
  (fun x=>nn-x.1) (fun x a1 w1 hI=> ?_) (0,at0,wr,[],.slice none 0 0,0) _ _ ⟨Nat.zero_le _,rfl,rfl,rfl,p1,p2,o3,⟨rfl,.inl ⟨rfl,rfl⟩⟩,b3,by omega,rfl,hat,⟨Int.le_refl 0,by show (0:Int)<65536;decide⟩,by
   rw [←hRES,show nn-(0,at0,wr,([]:List Sg),Value.slice none 0 0,(0:Int)).1=r.n.toNat by show nn-0=_;omega];rfl⟩
 obtain ⟨k,at1,wr1,l,v,id⟩:=x
 obtain ⟨hk,q0,qd,hsl,oR,oP,oT,hown,hbl,hsz3,hlen,hat1,hid,hrec⟩:=hI
 simp only at hk hsl oP oT hown hlen hat1 hid hrec
 simp only [List.map_cons,List.map_nil,List.cons.injEq,and_true] at hsl
 obtain ⟨s0,s3,s5,s6,s8,s9⟩:=hsl
 have hone:=hown.one
 have hlt:=hown.lt
 have st1:=st.below (hR0▸hbl)
 have hj1:jOf [(R0,0),(R0+1,0),(R0+2,0)] 1=some ⟨R0,0,0,none⟩:=rfl
 have hj2:jOf [(R0,0),(R0+1,0),(R0+2,0)] 2=some ⟨R0+1,0,0,none⟩:=rfl
 have hj3:jOf [(R0,0),(R0+1,0),(R0+2,0)] 3=some ⟨R0+2,0,0,none⟩:=rfl
 have hap:apart [(R0,0),(R0+1,0),(R0+2,0)] znq:=zb4 (by simp)
 have slots: ∀ {ρ:Val} {Id F Ad Ln nx e:Int} {nwr:Bool},PkD ρ P r.n r.d r.v r.c at1 k id Ad Ln Id F nx e tb wr1 nwr v→ ∀t∈zd4,Dw.R ρ (jOf [(R0,0),(R0+1,0),(R0+2,0)]) t.2 (a1.tmps.getD t.1 undef):=fun {ρ Id F Ad Ln nx e nwr} D t ht=>by
  simp only [zd4,List.mem_cons,List.not_mem_nil,or_false] at ht
  rcases ht with rfl|rfl|rfl|rfl|rfl|rfl
  ·rw [s0];exact za5 D.dp rfl
  ·rw [s3];exact zap D.dtb
  ·rw [s5];exact ⟨_,hj1,rfl⟩
  ·rw [s6];exact ⟨_,hj2,rfl⟩
  ·rw [s8];exact ⟨_,hj3,rfl⟩
  ·rw [s9];exact zac rfl
 have shs: ∀ {ρ:Val} {Id F Ad Ln nx e:Int} {nwr:Bool} {G:Gho},PkD ρ P r.n r.d r.v r.c at1 k id Ad Ln Id F nx e tb wr1 nwr v→ShsOk ρ (jOf [(R0,0),(R0+1,0),(R0+2,0)]) (cxOf w1 (fun b=>(b=R0∨b=R0+1∨b=R0+2)∨v.ownBlock=some b) G) [(R0,0),(R0+1,0),(R0+2,0)] znq:=fun {ρ Id F Ad Ln nx e nwr G} D=>
  ⟨za6 oR (zab (zap rfl) (zab (zac D.dn) (zab (zac D.dd) (zab (zac D.dv) (zab (zac D.dc) RL.nil))))) (.inl (.inl rfl)),za6 oP (zab (zac D.di) (zab (zap D.dwr) RL.nil)) (.inl (.inr (.inl rfl))),za6 oT (zab (zac D.did) (zab (zac D.dct) (zab (za5 D.dsv hone) RL.nil))) (.inl (.inr (.inr rfl))),trivial⟩
 have kold: ∀b,((b=R0∨b=R0+1∨b=R0+2)∨v.ownBlock=some b)→b<w1.heap.size:=fun b hb=>by
  rcases hb with (rfl|rfl|rfl)|hb
  ·omega
  ·omega
  ·omega
  ·exact (hlt b hb).2.1
 have below: ∀ {w2:World},Dw.Mv (fun b=>(b=R0∨b=R0+1∨b=R0+2)∨v.ownBlock=some b) w1 w2→Below R0 w w2:=fun {w2} hmv=>⟨hmv.os.trans hbl.os,hmv.tape.trans hbl.tape,hmv.output.trans hbl.output,Nat.le_trans hbl.size hmv.size,fun b hb=>(hmv.block b (by omega) fun e=>by
  rcases e with (e|e|e)|e
  ·omega
  ·omega
  ·omega
  ·have:=(hlt b e).1;omega).trans (hbl.block b hb)⟩
 by_cases hkn:k<nn
 ·obtain ⟨a,ha⟩: ∃a:Nat,4096+16*at1=a:=⟨(4096+16*at1).toNat,(Int.toNat_of_nonneg (by omega)).symm⟩
  have hin:a+16≤N:=by omega
  rw [show nn-k=(nn-(k+1))+1 by omega] at hrec
  unfold zbM at hrec
  simp only [ha,Int.toNat_natCast] at hrec
  have bA:=zbF g hg a 8
  have bL:=zbF g hg (a+8) 4
  have bI:=zbF g hg (a+12) 2
  have bF:=zbF g hg (a+14) 2
  have hpg:=zgm (n:=r.n) (a:=at1) (c:=1) (x:=wr1) hat1 ⟨by decide,by omega⟩
  obtain ⟨we,hwe⟩: ∃we,we=(zbw N g (zah g a 8) (zah g (a+8) 4)).2:=⟨_,rfl⟩
  rw [←hwe] at hrec
  obtain ⟨ρ,D⟩:=zvn (P:=P) (n:=r.n) (d:=r.d) (v:=r.v) (c:=r.c) (i:=at1) (ct:=k) (id:=id) (A:=zah g a 8) (Ln:=zah g (a+8) 4) (Id:=zah g (a+12) 2) (F:=zah g (a+14) 2) (nx:=(zaL r.n at1 wr1 1).1) (e:=we) (tb:=tb) (wr:=wr1) (nwr:=(zaL r.n at1 wr1 1).2) (sv:=v) ⟨n1,n2⟩ hd hv hc ⟨by omega,by omega⟩ ⟨by omega,by omega⟩ hid bA bL bI bF ⟨by omega,by omega⟩
  have tlt:(SB.cmp .lss (lnv 5) (szv 0)).den ρ=true:=by rw [zaY,D.dct,D.dn];exact decide_eq_true (by omega)
  have tneq: ∀ {m:Nat} {x y:Int},(ptg m).den ρ=x%2*y→y≠0→(SB.cmp .neq (ptg m) (.lit 0)).den ρ=decide (x%2=1):=fun {m x y} h hy=>by
   rw [zcL,h,zad]
   by_cases h:x%2=1
   ·rw [h,Int.one_mul,decide_eq_true rfl];exact bne_iff_ne.2 hy
   ·rw [show x%2=0 by omega,Int.zero_mul];rfl
  have t2:=tneq (m:=2) (x:=zah g (a+14) 2/4) (y:=4) D.dF2 (by decide)
  have t0:=tneq (m:=0) (x:=zah g (a+14) 2) (y:=1) (by rw [D.dF0,Int.mul_one]) (by decide)
  have t0e:(SB.cmp .eql (ptg 0) (.lit 0)).den ρ=decide (zah g (a+14) 2%2=0):=by
   rw [zbj,D.dF0,zad]
   by_cases h:zah g (a+14) 2%2=0
   ·rw [h];rfl
   ·rw [decide_eq_false h];exact beq_eq_false_iff_ne.2 h
  have hwk:=zeu k (by omega)
  have tct:(SB.cmp .gtr (.bin .add .i64 (lnv 5) (.lit 1)) (.lit 1)).den ρ=decide ((1:Int)<k+1):=by
   rw [zbC,den_add,D.dct,zad,hwk]
   exact decide_eq_decide.2 (by push_cast;omega)
  have hG:(pkG P L Bs B N g (R0+3) w1.heap.size v l a (zbw N g (zah g a 8) (zah g (a+8) 4)).1 4 8 6).G 0 (jOf [(R0,0),(R0+1,0),(R0+2,0)]) w1:=znp st1 hown fun x hx=>by
   simp only [List.mem_cons,List.not_mem_nil,or_false] at hx
   rcases hx with rfl|rfl|rfl
   all_goals
    refine ⟨by show _≠_;omega,by show _≠_;omega,by show _≠_;omega,by show _≠_;omega,fun e=> ?_⟩
    have:=(hlt _ e).1
    simp only at this
    omega
  have lo:P<R0+3∧L<R0+3∧Bs<R0+3∧B<R0+3:=⟨by omega,by omega,by omega,by omega⟩
  have E1: ∀ {K:Nat→Prop},zaQ prog ρ w1 K (pkG P L Bs B N g (R0+3) w1.heap.size v l a (zbw N g (zah g a 8) (zah g (a+8) 4)).1 4 8 6) (prdE 4):=fun {K}=>zsB D ⟨hat1.1,by omega⟩ hd.1 (by rw [hd4];exact ha) hN hin
  have E2: ∀ {K:Nat→Prop},zaQ prog ρ w1 K (pkG P L Bs B N g (R0+3) w1.heap.size v l a (zbw N g (zah g a 8) (zah g (a+8) 4)).1 4 8 6) (pdsE 4):=fun {K}=>zsW D hg
  have E3: ∀ {K:Nat→Prop} {G:Gho},zaQ prog ρ w1 K G pg1E:=fun {K G}=>zHH D ⟨n1,n2⟩ hat1
  by_cases hF:zah g (a+14) 2/4%2=1
  ·rw [if_pos hF] at hrec
   by_cases htb:tb=false
   ·refine wp_mono (zaz (ρ:=ρ) (K:=fun b=>(b=R0∨b=R0+1∨b=R0+2)∨v.ownBlock=some b) (g:=pkG P L Bs B N g (R0+3) w1.heap.size v l a (zbw N g (zah g a 8) (zah g (a+8) 4)).1 4 8 6) (bl:= [(R0,0),(R0+1,0),(R0+2,0)]) mixed zAB zDZ kold (shs D) hap hG
     ⟨E1,E2,E3,trivial⟩ trivial trivial q0 qd (slots D) (zaa.2 ⟨tlt,zaa.2 ⟨t2.trans (decide_eq_true hF),zaa.2 ⟨by rw [zaA,D.dtb];exact htb,zae.2 trivial⟩⟩⟩)) fun ex a2 w2 hh=> ?_
    obtain ⟨q,hq,hto,lf,hlf,rfl,hsz2,j2,hdf2,he⟩:=hh
    unfold zvi at hq
    simp only [List.mem_cons,List.not_mem_nil,or_false] at hq
    subst hq
    cases hlf
    have hs2:=zaB he.ret
    have hj3':=he.sub _ _ hj3
    have lc3:=zag hj3'
    have oT2:=(zbH he.rows (List.mem_cons_of_mem _ (List.mem_cons_of_mem _ (List.mem_cons_self ..))) _ hj3').2 (.inr (.inl (.inr (.inr rfl)))) rfl
    have hb2:=below he.mv
    obtain ⟨Fs,_,_,⟨hu,_⟩,_⟩:=he.gho
    simp only [AV.valL,AV.val,zad,lc3,List.map_cons,List.map_nil,List.cons.injEq,and_true] at hs2
    simp only [AV.valL,AV.val,den_add,zad,D.dId,D.dct,D.dsv,hwk] at oT2
    rw [if_pos (.inl htb)] at hrec
    exact done hdf2 hs2.1 hs2.2 oT2 (by rw [←hrec]) (by rw [←hrec];push_cast;rfl) (by rw [←hrec]) (by rw [←hrec];exact hu.mono (by omega)) hb2
   ·have htb1:tb=true:=by simpa using htb
    by_cases hc1:(1:Int)<k+1
    ·refine wp_mono (zaz (ρ:=ρ) (K:=fun b=>(b=R0∨b=R0+1∨b=R0+2)∨v.ownBlock=some b) (g:=pkG P L Bs B N g (R0+3) w1.heap.size v l a (zbw N g (zah g a 8) (zah g (a+8) 4)).1 4 8 6) (bl:= [(R0,0),(R0+1,0),(R0+2,0)]) mixed zAz zDY kold (shs D) hap hG
      ⟨E1,E2,E3,trivial⟩ trivial trivial q0 qd (slots D) (zaa.2 ⟨tlt,zaa.2 ⟨t2.trans (decide_eq_true hF),zaa.2 ⟨by rw [zaA,D.dtb];exact htb1,zaa.2 ⟨tct.trans (decide_eq_true hc1),zae.2 trivial⟩⟩⟩⟩)) fun ex a2 w2 hh=> ?_
     obtain ⟨q,hq,hto,lf,hlf,rfl,hsz2,j2,hdf2,he⟩:=hh
     unfold zvg at hq
     simp only [List.mem_cons,List.not_mem_nil,or_false] at hq
     subst hq
     cases hlf
     have hs2:=zaB he.ret
     have hj3':=he.sub _ _ hj3
     have lc3:=zag hj3'
     have oT2:=(zbH he.rows (List.mem_cons_of_mem _ (List.mem_cons_of_mem _ (List.mem_cons_self ..))) _ hj3').2 (.inr (.inl (.inr (.inr rfl)))) rfl
     have hb2:=below he.mv
     obtain ⟨Fs,_,_,⟨hu,_⟩,_⟩:=he.gho
     simp only [AV.valL,AV.val,zad,lc3,List.map_cons,List.map_nil,List.cons.injEq,and_true] at hs2
     simp only [AV.valL,AV.val,den_add,zad,D.dId,D.dct,D.dsv,hwk] at oT2
     rw [if_pos (.inr (.inl hc1))] at hrec
     exact done hdf2 hs2.1 hs2.2 oT2 (by rw [←hrec]) (by rw [←hrec];push_cast;rfl) (by rw [←hrec]) (by rw [←hrec];exact hu.mono (by omega)) hb2
    ·by_cases hf0:zah g (a+14) 2%2=1
     ·refine wp_mono (zaz (ρ:=ρ) (K:=fun b=>(b=R0∨b=R0+1∨b=R0+2)∨v.ownBlock=some b) (g:=pkG P L Bs B N g (R0+3) w1.heap.size v l a (zbw N g (zah g a 8) (zah g (a+8) 4)).1 4 8 6) (bl:= [(R0,0),(R0+1,0),(R0+2,0)]) mixed zAx zDX kold (shs D) hap hG
       ⟨E1,E2,E3,trivial⟩ trivial trivial q0 qd (slots D) (zaa.2 ⟨tlt,zaa.2 ⟨t2.trans (decide_eq_true hF),zaa.2 ⟨by rw [zaA,D.dtb];exact htb1,zaa.2 ⟨tct.trans (decide_eq_false hc1),zaa.2 ⟨t0.trans (decide_eq_true hf0),zae.2 trivial⟩⟩⟩⟩⟩)) fun ex a2 w2 hh=> ?_
      obtain ⟨q,hq,hto,lf,hlf,rfl,hsz2,j2,hdf2,he⟩:=hh
      unfold zve at hq
      simp only [List.mem_cons,List.not_mem_nil,or_false] at hq
      subst hq
      cases hlf
      have hs2:=zaB he.ret
      have hj3':=he.sub _ _ hj3
      have lc3:=zag hj3'
      have oT2:=(zbH he.rows (List.mem_cons_of_mem _ (List.mem_cons_of_mem _ (List.mem_cons_self ..))) _ hj3').2 (.inr (.inl (.inr (.inr rfl)))) rfl
      have hb2:=below he.mv
      obtain ⟨Fs,_,_,⟨hu,_⟩,_⟩:=he.gho
      simp only [AV.valL,AV.val,zad,lc3,List.map_cons,List.map_nil,List.cons.injEq,and_true] at hs2
      simp only [AV.valL,AV.val,den_add,zad,D.dId,D.dct,D.dsv,hwk] at oT2
      rw [if_pos (.inr (.inr hf0))] at hrec
      exact done hdf2 hs2.1 hs2.2 oT2 (by rw [←hrec]) (by rw [←hrec];push_cast;rfl) (by rw [←hrec]) (by rw [←hrec];exact hu.mono (by omega)) hb2
     ·refine wp_mono (zaz (ρ:=ρ) (K:=fun b=>(b=R0∨b=R0+1∨b=R0+2)∨v.ownBlock=some b) (g:=pkG P L Bs B N g (R0+3) w1.heap.size v l a (zbw N g (zah g a 8) (zah g (a+8) 4)).1 4 8 6) (bl:= [(R0,0),(R0+1,0),(R0+2,0)]) mixed zDV zHx kold (shs D) hap hG
       ⟨E1,E2,E3,zHc (by rw [←hwe];exact D) hN hN1 bA bL rfl hsz3,trivial⟩ trivial trivial q0 qd (slots D) (zaa.2 ⟨tlt,zaa.2 ⟨t2.trans (decide_eq_true hF),zaa.2 ⟨by rw [zaA,D.dtb];exact htb1,zaa.2 ⟨tct.trans (decide_eq_false hc1),zaa.2 ⟨t0.trans (decide_eq_false hf0),zae.2 trivial⟩⟩⟩⟩⟩)) fun ex a2 w2 hh=> ?_
      obtain ⟨q,hq,hto,lf,hlf,rfl,hsz2,j2,hdf2,he⟩:=hh
      unfold zAv at hq
      simp only [List.mem_cons,List.not_mem_nil,or_false] at hq
      subst hq
      cases hlf
      have hs2:=zaB he.ret
      have hj3':=he.sub _ _ hj3
      have lc3:=zag hj3'
      have oT2:=(zbH he.rows (List.mem_cons_of_mem _ (List.mem_cons_of_mem _ (List.mem_cons_self ..))) _ hj3').2 (.inr (.inl (.inr (.inr rfl)))) rfl
      have hb2:=below he.mv
      obtain ⟨Fs,_,_,u,hq6,⟨hu,_⟩,_⟩:=he.gho
      have e6:(lcOf j2 6).q.getD undef=u:=zcN (ρ:=ρ) hq6
      simp only [AV.valL,AV.val,zaM,D.de,lc3,List.map_cons,List.map_nil,List.cons.injEq,and_true] at hs2
      simp only [AV.valL,AV.val,den_add,zad,D.dId,D.dct,e6,hwk] at oT2
      rw [if_neg (by rintro (h|h|h);exact htb h;exact hc1 h;exact hf0 h)] at hrec
      exact done hdf2 hs2.1 hs2.2 oT2 (by rw [←hrec]) (by rw [←hrec];push_cast;rfl) (by rw [←hrec]) (by rw [←hrec];exact hu.mono (by omega)) hb2
  ·rw [if_neg hF] at hrec
   by_cases hf0:zah g (a+14) 2%2=0
   ·rw [if_pos hf0] at hrec
    refine wp_mono (zaz (ρ:=ρ) (K:=fun b=>(b=R0∨b=R0+1∨b=R0+2)∨v.ownBlock=some b) (g:=pkG P L Bs B N g (R0+3) w1.heap.size v l a (zbw N g (zah g a 8) (zah g (a+8) 4)).1 4 8 6) (bl:= [(R0,0),(R0+1,0),(R0+2,0)]) mixed zHA zJD kold (shs D) hap hG
     ⟨E1,E2,E3,trivial⟩ trivial ⟨znn D lo rfl hsz3 (fun b hb=> .inr hb) (by omega),trivial⟩ q0 qd (slots D) (zaa.2 ⟨tlt,zaa.2 ⟨t2.trans (decide_eq_false hF),zaa.2 ⟨t0e.trans (decide_eq_true hf0),zae.2 trivial⟩⟩⟩)) fun ex a2 w2 hh=> ?_
    obtain ⟨q,hq,hto,lf,hlf,rfl,hsz2,j2,hdf2,he⟩:=hh
    unfold zFI at hq
    simp only [List.mem_cons,List.not_mem_nil,or_false] at hq
    subst hq
    cases hlf
    have hs2:=zaB he.ret
    have hj3':=he.sub _ _ hj3
    have lc3:=zag hj3'
    have oT2:=(zbH he.rows (List.mem_cons_of_mem _ (List.mem_cons_of_mem _ (List.mem_cons_self ..))) _ hj3').2 (.inr (.inl (.inr (.inr rfl)))) rfl
    have hb2:=below he.mv
    obtain ⟨Fs,_,_,u,hq8,⟨hu,_⟩,_⟩:=he.gho
    have e8:(lcOf j2 8).q.getD undef=u:=zcN (ρ:=ρ) hq8
    simp only [AV.valL,AV.val,zad,lc3,List.map_cons,List.map_nil,List.cons.injEq,and_true] at hs2
    simp only [AV.valL,AV.val,den_add,zad,D.dId,D.dct,e8,hwk] at oT2
    exact done hdf2 hs2.1 hs2.2 oT2 (by rw [←hrec]) (by rw [←hrec];push_cast;rfl) (by rw [←hrec]) (by rw [←hrec];exact hu.mono (by omega)) hb2
   ·rw [if_neg hf0] at hrec
    refine wp_mono (zaz (ρ:=ρ) (K:=fun b=>(b=R0∨b=R0+1∨b=R0+2)∨v.ownBlock=some b) (g:=pkG P L Bs B N g (R0+3) w1.heap.size v l a (zbw N g (zah g a 8) (zah g (a+8) 4)).1 4 8 6) (bl:= [(R0,0),(R0+1,0),(R0+2,0)]) mixed zHy zJC kold (shs D) hap hG
     ⟨E1,E2,E3,trivial⟩ trivial ⟨znn D lo rfl hsz3 (fun b hb=> .inr hb) (by omega),trivial⟩ q0 qd (slots D) (zaa.2 ⟨tlt,zaa.2 ⟨t2.trans (decide_eq_false hF),zaa.2 ⟨t0e.trans (decide_eq_false hf0),zae.2 trivial⟩⟩⟩)) fun ex a2 w2 hh=> ?_
    obtain ⟨q,hq,hto,lf,hlf,rfl,hsz2,j2,hdf2,he⟩:=hh
    unfold zFG at hq
    simp only [List.mem_cons,List.not_mem_nil,or_false] at hq
    subst hq
    cases hlf
    have hs2:=zaB he.ret
    have hj3':=he.sub _ _ hj3
    have lc3:=zag hj3'
    have oT2:=(zbH he.rows (List.mem_cons_of_mem _ (List.mem_cons_of_mem _ (List.mem_cons_self ..))) _ hj3').2 (.inr (.inl (.inr (.inr rfl)))) rfl
    have hb2:=below he.mv
    obtain ⟨Fs,_,_,u,hq8,⟨hu,_⟩,_⟩:=he.gho
    have e8:(lcOf j2 8).q.getD undef=u:=zcN (ρ:=ρ) hq8
    have hj1':=he.sub _ _ hj1
    have hj2':=he.sub _ _ hj2
    have lc1:=zag hj1'
    have lc2:=zag hj2'
    have oR2:=(zbH he.rows (List.mem_cons_self ..) _ hj1').2 (.inr (.inl (.inl rfl))) rfl
    have oP2:=(zbH he.rows (List.mem_cons_of_mem _ (List.mem_cons_self ..)) _ hj2').2 (.inr (.inl (.inr (.inl rfl)))) rfl
    simp only [AV.valL,AV.val,zad,zaA,D.dp,D.dtb,lc1,lc2,lc3] at hs2
    simp only [AV.valL,AV.val,den_add,zad,D.dId,D.dct,e8,hwk] at oT2
    simp only [AV.valL,AV.val,zbN,D.dn,D.dd,D.dv,D.dc] at oR2
    simp only [AV.valL,AV.val,zaA,D.dnx,D.dnwr] at oP2
    refine ⟨(k+1,(zaL r.n at1 wr1 1).1,(zaL r.n at1 wr1 1).2,l++ [pSeg g a],u,zah g (a+12) 2),by simp only;omega,hkn,hsz2,hdf2,hs2,oR2,oP2,oT2,hu,hb2,Nat.le_trans hsz3 he.mv.size,by simp [hlen],hpg,bI,?_⟩
    rw [←hrec]
    show zbM N g r.n tb (nn-(k+1)) (zaL r.n at1 wr1 1).1 ((k+1:Nat):Int) (l++ [pSeg g a]) (zah g (a+12) 2)=_
    rw [zAd r.n at1 wr1 true 1]
    push_cast
    rfl
 ·have hkk:k=nn:=by omega
  have hG0:(pkG P L Bs B N g (R0+3) w1.heap.size v l 0 [] 4 8 6).G 0 (jOf [(R0,0),(R0+1,0),(R0+2,0)]) w1:=znp st1 hown fun x hx=>by
   simp only [List.mem_cons,List.not_mem_nil,or_false] at hx
   rcases hx with rfl|rfl|rfl
   all_goals
    refine ⟨by show _≠_;omega,by show _≠_;omega,by show _≠_;omega,by show _≠_;omega,fun e=> ?_⟩
    have:=(hlt _ e).1
    simp only at this
    omega
  obtain ⟨ρ,D⟩:=zvn (P:=P) (n:=r.n) (d:=r.d) (v:=r.v) (c:=r.c) (i:=at1) (ct:=k) (id:=id) (A:=0) (Ln:=0) (Id:=0) (F:=0) (nx:=0) (e:=0) (tb:=tb) (wr:=wr1) (nwr:=false) (sv:=v) ⟨n1,n2⟩ hd hv hc ⟨by omega,by omega⟩ ⟨by omega,by omega⟩ hid ⟨by decide,by decide⟩ ⟨by decide,by decide⟩ ⟨by decide,by decide⟩ ⟨by decide,by decide⟩ ⟨by decide,by decide⟩
  refine wp_mono (zaz (ρ:=ρ) (K:=fun b=>(b=R0∨b=R0+1∨b=R0+2)∨v.ownBlock=some b) (g:=pkG P L Bs B N g (R0+3) w1.heap.size v l 0 [] 4 8 6) (bl:= [(R0,0),(R0+1,0),(R0+2,0)]) mixed zHC zJE kold (shs D) hap hG0 trivial trivial trivial q0 qd (slots D) (zaa.2 ⟨by rw [zaY,D.dct,D.dn];exact decide_eq_false (by omega),zae.2 trivial⟩)) fun ex a2 w2 hh=> ?_
  obtain ⟨q,hq,hto,lf,hlf,rfl,hsz2,j2,hdf2,he⟩:=hh
  have hb2:=below he.mv
  have hj3':=he.sub _ _ hj3
  have lc3:=zag hj3'
  unfold zFK at hq
  simp only [List.mem_cons,List.not_mem_nil,or_false] at hq
  subst hq
  cases hlf
  have oT2:=(zbH he.rows (List.mem_cons_of_mem _ (List.mem_cons_of_mem _ (List.mem_cons_self ..))) _ hj3').2 (.inr (.inl (.inr (.inr rfl)))) rfl
  have hs2:=zaB he.ret
  simp only [AV.valL,AV.val,zad,lc3,List.map_cons,List.map_nil,List.cons.injEq,and_true] at hs2
  simp only [AV.valL,AV.val,D.did,D.dct,D.dsv] at oT2
  obtain ⟨Fs,_,_,⟨hown2,_⟩⟩:=he.gho
  show K a2 w2
  refine hK _ _ ?_
  refine zby (c':=zaK prog [1,1,155]) (by kernel_rfl) ?_
  have hi1:jOf [(R0+2,0)] 1=some ⟨R0+2,0,0,none⟩:=rfl
  have hsz2':=he.mv.size
  refine wp_mono (zaz (ρ:=ρ) (K:=fun b=>b=R0+2) (g:=Gho.none) (bl:= [(R0+2,0)]) mixed zHv zJB (fun b hb=>by omega) ⟨za6 oT2 (zab (zac D.did) (zab (zac D.dct) (zab (za5 D.dsv hone) RL.nil))) rfl,trivial⟩ (zb4 (by simp)) zaO trivial trivial trivial hsz2 hdf2 (fun t ht=>by
   simp only [zgo,List.mem_cons,List.not_mem_nil,or_false] at ht
   rcases ht with rfl|rfl
   ·rw [hs2.2.2.2.2.1];exact ⟨_,hi1,rfl⟩
   ·rw [hs2.2.2.2.2.2];exact zac rfl) (zae.2 trivial)) fun ex a3 w3 hh=> ?_
  obtain ⟨q,hq,hto,lf,hlf,rfl,hsz3',j3,hdf3,he3⟩:=hh
  unfold zFE at hq
  simp only [List.mem_cons,List.not_mem_nil,or_false] at hq
  subst hq
  cases hlf
  have hs3:=zaB he3.ret
  have hi1':=he3.sub _ _ hi1
  have lc1:=zag hi1'
  have oT3:=(zbH he3.rows (List.mem_cons_self ..) _ hi1').2 (.inr rfl) rfl
  simp only [AV.valL,AV.val,zad,lc1,List.map_cons,List.map_nil,List.cons.injEq,and_true] at hs3
  simp only [AV.valL,AV.val,D.did,D.dct,D.dsv] at oT3
  rw [hkk,Nat.sub_self] at hrec
  unfold zbM at hrec
  refine done hdf3 hs3.1 hs3.2 oT3 (by rw [←hrec]) (by rw [←hrec,hkk]) (by rw [←hrec]) ?_ ?_
  ·rw [←hrec]
   exact (hown2.kept fun b hb=>he3.mv.block b (hown2.lt b hb).2.1 fun e=>by have:=(hlt b hb).1;omega).mono (by omega)
  ·exact ⟨he3.mv.os.trans hb2.os,he3.mv.tape.trans hb2.tape,he3.mv.output.trans hb2.output,Nat.le_trans hb2.size he3.mv.size,fun b hb=>(he3.mv.block b (by omega) fun e=>by omega).trans (hb2.block b hb)⟩
end Go.Proofs
namespace Go.Proofs
open Go.Dw Go.RowKit
def Tryz.zJw:Ent:=⟨75,[prg],0,0,0,.int .i64 (.lit 0),0⟩
def Tryz.zKo:Ent:=⟨153,[.cst 0 none,prg,.bool (.lit true)],0,0,0,.int .i64 (.lit 0),0⟩
def Tryz.pscE:Ent:=⟨154,[.agg [.int .i64 (lnv 4),.bool (.var 2)],.int .i64 (szv 0)],0,0,0,.int .i64 (.lit 0),0⟩
def Tryz.ppkI:Ent:=⟨155,[.cst 0 none,prg,.agg [.int .i64 (lnv 4),.bool (.var 2)],.bool (.var 1)],0,4,1,.tup [.agg [.int .i64 (u16v 13),.int .i64 (lnv 14),.opq 4 none],.int .i64 (.var 17)],1⟩
def Tryz.plkE:Ent:=⟨156,[.cst 0 none,.opq 4 none],1,6,1,.tup [.opq 6 none,.int .i64 (.var 18)],2⟩
end Go.Proofs
namespace Go.Proofs
open Go.Dw
def Tryz.zqA:List Ent:= []
def Tryz.zvs:List Sh:= []
def Tryz.zqB:List AV:= [prg]
def Tryz.zD2:List (SB×Bool):= [((.cmp .neq (.flds [⟨1,0,18446744073709551615,0,4,0⟩] 0) (.lit 0)),false),((.cmp .gtr (.bin .sub .u64 (.bin .mul .u64 (.lit 16) (szv 0)) (.lit 1)) (.bin .sub .u64 (.lit 18446744073709551615) (u64v 1))),false),((.cmp .neq (.flds [⟨2,0,18446744073709551615,0,2,0⟩] 0) (.lit 0)),false),((.cmp .gtr (.lit 3) (.bin .sub .u64 (.lit 18446744073709551615) (u64v 2))),false),((.cmp .leq (u64v 2) (u64v 1)),false),((.cmp .lss (.bin .sub .u64 (u64v 2) (u64v 1)) (.bin .mul .u64 (.lit 16) (szv 0))),false),((.cmp .neq (.flds [⟨3,0,18446744073709551615,0,2,0⟩] 0) (.lit 0)),false),((.cmp .gtr (.lit 3) (.bin .sub .u64 (.lit 18446744073709551615) (u64v 3))),false),((.cmp .leq (u64v 3) (u64v 1)),false),((.cmp .lss (.bin .sub .u64 (u64v 3) (u64v 1)) (.bin .mul .u64 (.lit 16) (szv 0))),false),((.cmp .leq (u64v 3) (u64v 2)),false),((.cmp .lss (.bin .sub .u64 (u64v 3) (u64v 2)) (.lit 4)),false)]
def Tryz.zAQ:List Leaf:= [
 ⟨.int .i64 (.lit 0),[],[],0,[]⟩]
def Tryz.zHN:List (List (SB×Bool)×Nat):= [
 ([], 0)]
theorem Tryz.zD1:(ev prog (zau zqA) 100000 (.call 75 zqB (zas 0 zvs) (zaR zAQ 0))).ways zD2=some zHN:=by kernel_rfl
theorem Tryz.zHO:(zai zvs&&zaf zqA&&AV.smallL zqB&&zal zAQ)=true:=by kernel_rfl
def Tryz.zpE:List Ent:= [rd0E,zJw]
def Tryz.zuP:List Sh:= []
def Tryz.zpF:List AV:= [.cst 0 none,prg,.bool (.lit true)]
def Tryz.zDA:List (SB×Bool):= []
def Tryz.zzX:List Leaf:= [
 ⟨.int .i64 (.lit 0),[],[],0,[]⟩]
def Tryz.zHi:List (List (SB×Bool)×Nat):= [
 ([], 0)]
theorem Tryz.zDz:(ev prog (zau zpE) 100000 (.call 153 zpF (zas 0 zuP) (zaR zzX 0))).ways zDA=some zHi:=by kernel_rfl
theorem Tryz.zHj:(zai zuP&&zaf zpE&&AV.smallL zpF&&zal zzX)=true:=by kernel_rfl
def Tryz.zvu:List Ent:= [zKo,pscE,ppkI,plkE]
def Tryz.zAW:List Sh:= []
def Tryz.zvv:List AV:= [.cst 0 none,prg,.agg [.int .i64 (lnv 4),.bool (.var 2)],.bool (.var 1)]
def Tryz.zHQ:List (SB×Bool):= []
def Tryz.zFR:List Leaf:= [
 ⟨.tup [.agg [.int .i64 (.lit 0),.int .i64 (.lit 0),.nils],.int .i64 (.lit 4)],[],[],1,[]⟩,
 ⟨.tup [.agg [.int .i64 (.lit 0),.int .i64 (.lit 0),.nils],.int .i64 (.var 18)],[],[],2,[]⟩,
 ⟨.tup [.agg [.int .i64 (u16v 13),.int .i64 (lnv 14),.opq 6 none],.int .i64 (.lit 0)],[],[],2,[]⟩,
 ⟨.tup [.agg [.int .i64 (.lit 0),.int .i64 (.lit 0),.nils],.int .i64 (.var 17)],[],[],1,[]⟩]
def Tryz.zFQ:List (List (SB×Bool)×Nat):= [
 ([((.cmp .eql (.var 17) (.lit 0)),true),((.cmp .geq (u16v 13) (szv 0)),true)],0),
 ([((.cmp .eql (.var 17) (.lit 0)),true),((.cmp .geq (u16v 13) (szv 0)),false),((.cmp .neq (.var 18) (.lit 0)),true)],1),
 ([((.cmp .eql (.var 17) (.lit 0)),true),((.cmp .geq (u16v 13) (szv 0)),false),((.cmp .neq (.var 18) (.lit 0)),false)],2),
 ([((.cmp .eql (.var 17) (.lit 0)),false)],3)]
theorem Tryz.zHP:(ev prog (zau zvu) 100000 (.call 122 zvv (zas 0 zAW) (zaR zFR 0))).ways zHQ=some zFQ:=by kernel_rfl
theorem Tryz.zJJ:(zai zAW&&zaf zvu&&AV.smallL zvv&&zal zFR)=true:=by kernel_rfl
def Tryz.zuK:List Ent:= []
def Tryz.zzR:List Sh:= []
def Tryz.zuL:List AV:= [.agg [.int .i64 (lnv 4),.bool (.var 2)],.int .i64 (szv 0)]
def Tryz.zHf:List (SB×Bool):= [(.cmp .geq (lnv 4) (szv 0),false)]
def Tryz.zFB:List Leaf:= [
 ⟨.int .i64 (.lit 0),[],[],0,[]⟩]
def Tryz.zJt:List (List (SB×Bool)×Nat):= [
 ([], 0)]
theorem Tryz.zHe:(ev prog (zau zuK) 100000 (.call 154 zuL (zas 0 zzR) (zaR zFB 0))).ways zHf=some zJt:=by kernel_rfl
theorem Tryz.zJu:(zai zzR&&zaf zuK&&AV.smallL zuL&&zal zFB)=true:=by kernel_rfl
open Go.RowKit
theorem Tryz.zmu {r:Rg} (h:PgOk r) (w:World):Calls prog 75 #[r.pval] w fun e w'=>e= .returned (.int .i64 0)∧Below w.heap.size w w':=by
 obtain ⟨⟨n1,n2⟩,hd,hv,hc⟩:=h.nums
 have hb:=h.bnd
 have e1:=h.d
 have e2:=h.v
 have e3:=h.c
 have d0:(szv 0).den (vof [r.n,r.d,r.v,r.c] [] [])=r.n:=zdz n1 n2
 have d1:(u64v 1).den (vof [r.n,r.d,r.v,r.c] [] [])=r.d:=zaG hd.1 hd.2
 have d2:(u64v 2).den (vof [r.n,r.d,r.v,r.c] [] [])=r.v:=zaG hv.1 hv.2
 have d3:(u64v 3).den (vof [r.n,r.d,r.v,r.c] [] [])=r.c:=zaG hc.1 hc.2
 have q1:SE.den (vof [r.n,r.d,r.v,r.c] [] []) (.flds [⟨1,0,18446744073709551615,0,4,0⟩] 0)=r.d%16:=znD (n:=4) hd.1 hd.2
 have q2:SE.den (vof [r.n,r.d,r.v,r.c] [] []) (.flds [⟨2,0,18446744073709551615,0,2,0⟩] 0)=r.v%4:=znD (n:=2) hv.1 hv.2
 have q3:SE.den (vof [r.n,r.d,r.v,r.c] [] []) (.flds [⟨3,0,18446744073709551615,0,2,0⟩] 0)=r.c%4:=znD (n:=2) hc.1 hc.2
 have m1:IntKind.wrap .u64 (16*r.n)=16*r.n:=zbE (by omega) (by omega)
 generalize vof [r.n,r.d,r.v,r.c] [] []=ρ at d0 d1 d2 d3 q1 q2 q3
 refine Calls.mono (zaD (ρ:=ρ) (K:=fun _=>False) (g:=Gho.none) (bl:= []) (vals:= [r.pval]) mixed zD1 zHO (fun b h=>h.elim) trivial trivial zaO trivial (zab (zbg (zab (zap rfl) (zab (zac d0) (zab (zac d1) (zab (zac d2) (zab (zac d3) RL.nil)))))) RL.nil)
  (zaa.2 ⟨by rw [zcL,q1,zad];exact bne_eq_false_iff_eq.2 (by omega),zaa.2 ⟨by rw [zbC,zbs,zbs,den_mul,zad,zad,zad,d0,d1,m1,zbE (by omega) (by omega),zbE (by omega) (by omega)];exact decide_eq_false (by omega),zaa.2 ⟨by rw [zcL,q2,zad];exact bne_eq_false_iff_eq.2 (by omega),zaa.2 ⟨by rw [zbC,zbs,zad,zad,d2,zbE (by omega) (by omega)];exact decide_eq_false (by omega),zaa.2 ⟨by rw [zkC,d2,d1];exact decide_eq_false (by omega),zaa.2 ⟨by rw [zaY,zbs,den_mul,zad,d0,d1,d2,m1,zbE (by omega) (by omega)];exact decide_eq_false (by omega),zaa.2 ⟨by rw [zcL,q3,zad];exact bne_eq_false_iff_eq.2 (by omega),zaa.2 ⟨by rw [zbC,zbs,zad,zad,d3,zbE (by omega) (by omega)];exact decide_eq_false (by omega),zaa.2 ⟨by rw [zkC,d3,d1];exact decide_eq_false (by omega),zaa.2 ⟨by rw [zaY,zbs,den_mul,zad,d0,d1,d3,m1,zbE (by omega) (by omega)];exact decide_eq_false (by omega),zaa.2 ⟨by rw [zkC,d3,d2];exact decide_eq_false (by omega),zaa.2 ⟨by rw [zaY,zbs,zad,d3,d2,zbE (by omega) (by omega)];exact decide_eq_false (by omega),zae.2 trivial⟩⟩⟩⟩⟩⟩⟩⟩⟩⟩⟩⟩)) fun e w' hh=> ?_
 obtain ⟨_,j,he⟩:=zcr hh
 exact ⟨he.ret,zar he (fun _ h=>h)⟩
theorem Tryz.zsA {P L Bs B N:Nat} {g:Nat→Int} {r:Rg} {w:World} (st:GM w P L Bs B N g) (hr:PgOk r):
  Calls prog 153 #[vp P,r.pval,.bool true] w fun e w'=>e= .returned (.int .i64 0)∧Below w.heap.size w w':=by
 obtain ⟨⟨n1,n2⟩,hd,hv,hc⟩:=hr.nums
 have d0:(szv 0).den (vof [r.n,r.d,r.v,r.c] [] [vp P])=r.n:=zdz n1 n2
 have d1:(u64v 1).den (vof [r.n,r.d,r.v,r.c] [] [vp P])=r.d:=zaG hd.1 hd.2
 have d2:(u64v 2).den (vof [r.n,r.d,r.v,r.c] [] [vp P])=r.v:=zaG hv.1 hv.2
 have d3:(u64v 3).den (vof [r.n,r.d,r.v,r.c] [] [vp P])=r.c:=zaG hc.1 hc.2
 have dp:(vof [r.n,r.d,r.v,r.c] [] [vp P]).v 0=vp P:=rfl
 generalize vof [r.n,r.d,r.v,r.c] [] [vp P]=ρ at d0 d1 d2 d3 dp
 have hR: ∀j,Dw.R ρ j prg r.pval:=fun j=>zbg (zab (zap rfl) (zab (zac d0) (zab (zac d1) (zab (zac d2) (zab (zac d3) RL.nil)))))
 refine Calls.mono (zaD (ρ:=ρ) (K:=fun _=>False) (g:=memG P L Bs B N [g]) (bl:= []) (vals:= [vp P,r.pval,.bool true]) mixed zDz zHj (fun b h=>h.elim) trivial trivial
  (za7 st fun b _ hm=>by obtain ⟨k,L',h1,_⟩:=hm;cases k<;>cases h1) ⟨zsr dp (fun w F q hf=>by obtain ⟨_,_,_,_,g',e,hm'⟩:=hf;cases e;exact hm'),?_,trivial⟩ (zab (za5 dp rfl) (zab (hR _) (zab (zap rfl) RL.nil))) (zae.2 trivial)) fun e w' hh=> ?_
 ·exact zaw (Dw.enters_of (by kernel_rfl)) (by rfl) [r.pval] (.int .i64 0) (fun j=>zab (hR j) RL.nil) (fun j=>zac rfl) fun w F q hf=>zmu hr w
 ·obtain ⟨_,j,he⟩:=zcr hh
  exact ⟨he.ret,zar he (fun _ h=>h)⟩
theorem Tryz.zCX {n a:Int} {x:Bool} (hn:1≤n∧n≤32768) (ha:0≤a∧a<n) (w:World):
  Calls prog 154 #[posV a x,.int .i64 n] w fun e w'=>e= .returned (.int .i64 0)∧Below w.heap.size w w':=by
 have d0:(szv 0).den (vof [n,0,0,0,a] [false,false,x] [])=n:=zdz hn.1 hn.2
 have d4:(lnv 4).den (vof [n,0,0,0,a] [false,false,x] [])=a:=zat ha.1 (by show a<_;omega)
 have b2:(vof [n,0,0,0,a] [false,false,x] []).b 2=x:=rfl
 generalize vof [n,0,0,0,a] [false,false,x] []=ρ at d0 d4 b2
 refine Calls.mono (zaD (ρ:=ρ) (K:=fun _=>False) (g:=Gho.none) (bl:= []) (vals:= [posV a x,.int .i64 n]) mixed zHe zJu (fun b h=>h.elim) trivial trivial zaO trivial (zab (zbg (zab (zac d4) (zab (zap b2) RL.nil))) (zab (zac d0) RL.nil)) (zaa.2 ⟨by rw [zcf,d4,d0];exact decide_eq_false (by omega),zae.2 trivial⟩)) fun e w' hh=> ?_
 obtain ⟨_,j,he⟩:=zcr hh
 exact ⟨he.ret,zar he (fun _ h=>h)⟩
theorem Tryz.zvO {g:Nat→Int} (hg: ∀j,0≤g j∧g j<256): ∀(k a:Nat) (l:List Sg),(∀x∈l,x.ok)→(∀x∈(zk8 g a k l).1,x.ok)∧(zk8 g a k l).1.length≤l.length+k
 | 0,a,l,h=>⟨h,Nat.le_refl _⟩
 | k+1,a,l,h=>by
  unfold zk8
  split
  ·exact ⟨fun x hx=>(by cases hx),Nat.zero_le _⟩
  ·have:=zvO hg k (a+16) (l++ [pSeg g a]) fun x hx=>by
    rcases List.mem_append.1 hx with hx|hx
    ·exact h x hx
    ·rw [List.mem_singleton] at hx;subst hx;exact zAV hg a
   exact ⟨this.1,by have:=this.2;simp at this;omega⟩
theorem Tryz.zwF {N:Nat} {g:Nat→Int} (hg: ∀j,0≤g j∧g j<256) {A n:Int} (hn:0≤n):(∀x∈(zbw N g A n).1,x.ok)∧(zbw N g A n).1.length≤64:=by
 unfold zbw
 split
 ·exact ⟨fun x hx=>(by cases hx),Nat.zero_le _⟩
 ·have h:=zvO hg (entN N A n).1.toNat A.toNat [] fun x hx=>(by cases hx)
  refine ⟨h.1,Nat.le_trans h.2 ?_⟩
  rcases zvW (N:=N) (A:=A) hn with ⟨_,_,h2,_⟩|⟨_,h2⟩
  ·simp;omega
  ·rw [h2];simp
theorem Tryz.zj9 {N:Nat} {g:Nat→Int} (hg: ∀j,0≤g j∧g j<256) {n:Int} {tb:Bool}: ∀(k:Nat) (a ct:Int) (l:List Sg) (id:Int),(0≤id∧id<65536)→0≤ct→(∀x∈l,x.ok)→
  (0≤(zbM N g n tb k a ct l id).id∧(zbM N g n tb k a ct l id).id<65536)∧(0≤(zbM N g n tb k a ct l id).ct∧(zbM N g n tb k a ct l id).ct≤ct+k∧((zbM N g n tb k a ct l id).e=0→ct+1≤(zbM N g n tb k a ct l id).ct))∧(∀x∈(zbM N g n tb k a ct l id).sg,x.ok)∧(zbM N g n tb k a ct l id).sg.length≤l.length+k+64
 | 0,a,ct,l,id,h1,h2,h3=>by unfold zbM;exact ⟨h1,⟨h2,by simp,fun h=>by cases h⟩,h3,by show l.length≤_;omega⟩
 | k+1,a,ct,l,id,h1,h2,h3=>by
  unfold zbM
  have bI:=zbF g hg ((4096+16*a).toNat+12) 2
  have bI:0≤zah g ((4096+16*a).toNat+12) 2∧zah g ((4096+16*a).toNat+12) 2<65536:=bI
  have hs:=zAV hg (4096+16*a).toNat
  have hw:=zwF (N:=N) hg (A:=zah g (4096+16*a).toNat 8) (n:=zah g ((4096+16*a).toNat+8) 4) (zbF g hg _ 4).1
  have hap: ∀x∈l++ [pSeg g (4096+16*a).toNat],x.ok:=fun x hx=>by
   rcases List.mem_append.1 hx with hx|hx
   ·exact h3 x hx
   ·rw [List.mem_singleton] at hx;subst hx;exact hs
  simp only
  split
  ·split
   ·exact ⟨bI,⟨by show 0≤ct+1;omega,by show ct+1≤_;push_cast;omega,fun h=>by cases h⟩,h3,by show l.length≤_;omega⟩
   ·exact ⟨bI,⟨by show 0≤ct+1;omega,by show ct+1≤_;push_cast;omega,fun _=>Int.le_refl _⟩,hw.1,by have:=hw.2;show (zbw N g _ _).1.length≤_;omega⟩
  ·split
   ·exact ⟨bI,⟨by show 0≤ct+1;omega,by show ct+1≤_;push_cast;omega,fun _=>Int.le_refl _⟩,hap,by show (l++ [_]).length≤_;simp;omega⟩
   ·obtain ⟨q1,⟨q2,q3,q4⟩,q5,q6⟩:=zj9 hg (N:=N) (n:=n) (tb:=tb) k (zaL n a true 1).1 (ct+1) (l++ [pSeg g (4096+16*a).toNat]) (zah g ((4096+16*a).toNat+12) 2) bI (by omega) hap
    exact ⟨q1,⟨q2,by push_cast;omega,fun h=>by have:=q4 h;omega⟩,q5,by simp at q6;omega⟩
def Tryz.pPG (P L Bs B N:Nat) (g:Nat→Int) (b2:Nat) (l1 l2:List Sg):Gho where
 fact k q F w:=(F P∧F L∧F Bs∧F B∧GM w P L Bs B N g)∧(match k with|0=>True|1=> ∃u,q 4=some u∧fwOwn b2 u l1 F w|_=> ∃u,q 6=some u∧fwOwn b2 u l2 F w)
 loc:=fun k q q' F w w' h hq hb hs=>by
  obtain ⟨⟨h1,h2,h3,h4,h5⟩,h6⟩:=h
  refine ⟨⟨h1,h2,h3,h4,h5.kept (fun b _ hb'=>by rcases hb' with rfl|rfl|rfl|rfl<;>exact hb _ (by assumption)) hs⟩,?_⟩
  match k,h6 with
  | 0,_=>trivial
  | 1,⟨u,h7,h8⟩=>exact ⟨u,hq _ _ h7,fwOwn.kept h8 hb⟩
  | k+2,⟨u,h7,h8⟩=>exact ⟨u,hq _ _ h7,fwOwn.kept h8 hb⟩
set_option maxRecDepth 10000 in
theorem Tryz.zyh {w:World} {P L Bs B N:Nat} {g:Nat→Int} {r:Rg} {at0:Int} {wr tb:Bool} (st:GM w P L Bs B N g) (hN:N≤1048576) (hr:PgOk r) (hfit:4104+16*r.n≤N) (hat:0≤at0∧at0<r.n):
    Calls prog 122 #[vp P,r.pval,posV at0 wr,.bool tb] w fun e w'=> ∃u,e= .returned (.tuple #[.agg #[.int .i64 (zbW N g r.n at0 tb).id,.int .i64 (zbW N g r.n at0 tb).ct,u],.int .i64 (zbW N g r.n at0 tb).e])∧
      OwnSeg w' w.heap.size u (zbW N g r.n at0 tb).sg∧Below w.heap.size w w':=by
  obtain ⟨⟨n1,n2⟩,hd,hv,hc⟩:=hr.nums
  have hbn:=hr.bnd
  have hN1:1≤N:=by omega
  have hg:=st.byte
  obtain ⟨b1,⟨b2,b3,b4⟩,b5,b6⟩:=zj9 hg (N:=N) (n:=r.n) (tb:=tb) r.n.toNat at0 0 [] 0 ⟨by decide,by decide⟩ (by decide) fun x hx=>(by cases hx)
  have hpk:=zmz (wr:=wr) (tb:=tb) st hN hr hfit hat
  have hpk0:=fun w1 (st1:GM w1 P L Bs B N g)=>zmz (wr:=wr) (tb:=tb) st1 hN hr hfit hat
  clear hpk
  unfold zbW
  simp only
  generalize zbM N g r.n tb r.n.toNat at0 0 [] 0=t at b1 b2 b3 b4 b5 b6 hpk0 ⊢
  obtain ⟨ρ,d0,d1,d2,d3,d4,d13,d14,i17,i18,bb1,bb2,dp⟩: ∃ρ:Val,(szv 0).den ρ=r.n∧(u64v 1).den ρ=r.d∧(u64v 2).den ρ=r.v∧(u64v 3).den ρ=r.c∧(lnv 4).den ρ=at0∧(u16v 13).den ρ=t.id∧(lnv 14).den ρ=t.ct∧ρ.i 17=t.e∧ρ.i 18=zcU N t.sg∧ρ.b 1=tb∧ρ.b 2=wr∧ρ.v 0=vp P:=
    ⟨vof [r.n,r.d,r.v,r.c,at0,0,0,0,0,0,0,0,0,t.id,t.ct,0,0,t.e,zcU N t.sg] [false,tb,wr] [vp P],zdz n1 n2,zaG hd.1 hd.2,zaG hv.1 hv.2,zaG hc.1 hc.2,zat hat.1 (by show at0<_;omega),zbD b1.1 b1.2,zat b2 (by show t.ct<_;omega),rfl,rfl,rfl,rfl,rfl⟩
  have hR: ∀j,Dw.R ρ j prg r.pval:=fun j=>zbg (zab (zap rfl) (zab (zac d0) (zab (zac d1) (zab (zac d2) (zab (zac d3) RL.nil)))))
  have hG:(pPG P L Bs B N g w.heap.size t.sg (if zcU N t.sg=0 then t.sg else [])).G 0 (jOf []) w:=
    ⟨fun b=>b=P∨b=L∨b=Bs∨b=B,fun b hb=>⟨by rcases hb with rfl|rfl|rfl|rfl;exact st.pl;exact st.ll;exact st.sl;exact st.bl,fun hm=>by obtain ⟨x,hx,_⟩:=List.mem_map.1 (zdp hm);cases hx⟩,⟨.inl rfl,.inr (.inl rfl),.inr (.inr (.inl rfl)),.inr (.inr (.inr rfl)),st⟩,trivial⟩
  refine Calls.mono (zaD (ρ:=ρ) (K:=fun _=>False) (g:=pPG P L Bs B N g w.heap.size t.sg (if zcU N t.sg=0 then t.sg else [])) (bl:= []) (vals:= [vp P,r.pval,posV at0 wr,.bool tb]) mixed zHP zJJ (fun b h=>h.elim) trivial trivial hG
    ⟨zaw (Dw.enters_of (by kernel_rfl)) (by rfl) [vp P,r.pval,.bool true] (.int .i64 0) (fun j=>zab (za5 dp rfl) (zab (hR j) (zab (zap rfl) RL.nil))) (fun j=>zac rfl) (fun w1 F q hf=>zsA hf.1.2.2.2.2 hr),
     zaw (Dw.enters_of (by kernel_rfl)) (by rfl) [posV at0 wr,.int .i64 r.n] (.int .i64 0) (fun j=>zab (zbg (zab (zac d4) (zab (zap bb2) RL.nil))) (zab (zac d0) RL.nil)) (fun j=>zac rfl) (fun w1 F q hf=>zCX ⟨n1,n2⟩ hat w1),?_,?_,trivial⟩
    (zab (za5 dp rfl) (zab (hR _) (zab (zbg (zab (zac d4) (zab (zap bb2) RL.nil))) (zab (zap bb1) RL.nil)))) (zae.2 trivial)) fun e w' hh=> ?_
  · refine ⟨Dw.enters_of (by kernel_rfl),fun j w1 vals F n0 hv hn hb hF hsz hf _=> ?_⟩
    have hv:=zcR (show AV.exactL [.cst 0 none,prg,.agg [.int .i64 (lnv 4),.bool (.var 2)],.bool (.var 1)]=true by rfl) hv (zab (za5 (ρ:=ρ) (j:=j) dp rfl) (zab (hR j) (zab (zbg (zab (zac d4) (zab (zap bb2) RL.nil))) (zab (zap bb1) RL.nil))))
    subst hv
    have hb:n0=4:=hb (by show (1:Nat)≠0;decide)
    subst hb
    obtain ⟨⟨f1,f2,f3,f4,hm⟩,_⟩:=hf
    refine Calls.mono (hpk0 w1 hm) fun en w' hh=> ?_
    obtain ⟨u,rfl,hu,hbl⟩:=hh
    have hlt:=hu.lt
    refine ⟨_,[u],fun b=>F b∨u.ownBlock=some b,rfl,rfl,zcC (zab (zbg (zab (zac d13) (zab (zac d14) (zab ⟨⟨⟨0,0,0,some u⟩,?_,rfl⟩,hu.one,fun _ h=>(by cases h)⟩ RL.nil)))) (zab (zac i17) RL.nil)),⟨⟨.inl f1,.inl f2,.inl f3,.inl f4,hm.below hbl⟩,u,zbY,hu.mono hsz,fun b hb=> .inr hb⟩,?_,Dw.Mv.of_below hbl⟩
    · show jq j 4 _ 4=_
      unfold jq
      rw [if_pos ⟨Nat.le_refl _,by simp⟩]
      simp
    · rintro b (hb|hb)
      · exact ⟨Nat.lt_of_lt_of_le (hF b hb) hbl.size,.inl hb⟩
      · exact ⟨(hlt b hb).2.1,.inr (hlt b hb).1⟩
  · refine ⟨Dw.enters_of (by kernel_rfl),fun j w1 vals F n0 hv hn hb hF hsz hf _=> ?_⟩
    have hb:n0=6:=hb (by show (1:Nat)≠0;decide)
    subst hb
    obtain ⟨⟨f1,f2,f3,f4,hm⟩,u,hq,hu,huF⟩:=hf
    obtain ⟨v1,m1,rfl,y1,hv⟩:=hv
    obtain ⟨v2,m2,rfl,⟨⟨Lq,hj,hLq⟩,_⟩,hm2⟩:=hv
    have hm2:m2= []:=hm2
    subst hm2
    have y1:v1=vp P:=by rw [R_val rfl y1];exact dp
    have hv2:v2=u:=by
      unfold opqs at hq
      rw [hj] at hq
      simp only [Option.bind_some] at hq
      rw [hLq] at hq
      exact Option.some.inj hq
    subst hv2 y1
    obtain ⟨sa,c,hve,hrr⟩:=hu.segV b5 (A:=fun _=>False) fun _ _ h=>h
    have hult:=hu.lt
    subst hve
    refine Calls.mono (zxN hm hN hN1 ⟨sa,c,rfl,hrr⟩ (by have h16:r.n.toNat≤16:=(by omega);simp at b6;omega) fun R o e=> ?_) fun en w' hh=> ?_
    · subst e
      have hp1:=st.pl
      have hp2:=st.ll
      have hp3:=st.sl
      have hp4:=st.bl
      have:=(hult R rfl).1
      omega
    · obtain ⟨rfl,hbl⟩:=hh
      have hres: ∃u2,(if zcU N t.sg=0 then Value.slice sa t.sg.length c else .slice none 0 0)=u2∧OwnSeg w' w.heap.size u2 (if zcU N t.sg=0 then t.sg else [])∧ ∀b,u2.ownBlock=some b→F b:=by
        by_cases h:zcU N t.sg=0
        · rw [if_pos h,if_pos h];exact ⟨_,rfl,hu.kept fun b hb=>hbl.block b (hult b hb).2.1,huF⟩
        · rw [if_neg h,if_neg h];exact ⟨_,rfl,OwnSeg.nil _ _,fun b hb=>by cases hb⟩
      obtain ⟨u2,hu2e,hu2,hu2F⟩:=hres
      rw [hu2e]
      refine ⟨_,[u2],fun b=>F b,rfl,rfl,zcC (zab ⟨⟨⟨0,0,0,some u2⟩,?_,rfl⟩,hu2.one,fun _ h=>(by cases h)⟩ (zab (zac i18) RL.nil)),⟨⟨f1,f2,f3,f4,hm.below hbl⟩,u2,zbY,hu2,hu2F⟩,fun b hb=>⟨Nat.lt_of_lt_of_le (hF b hb) hbl.size,.inl hb⟩,Dw.Mv.of_below hbl⟩
      show jq j 6 _ 6=_
      unfold jq
      rw [if_pos ⟨Nat.le_refl _,by simp⟩]
      simp
  · obtain ⟨p,hpm,hto,lf,hlf,j,he⟩:=hh
    have hbl:=zar he (fun _ h=>h)
    unfold zFQ at hpm
    simp only [List.mem_cons,List.not_mem_nil,or_false] at hpm
    rcases hpm with rfl|rfl|rfl|rfl
    all_goals
      simp only [zaa,zae,zbj,zcL,zcf,zaM,zad,d0,d13,i17,i18,beq_iff_eq,beq_eq_false_iff_ne,bne_iff_ne,ne_eq,bne_eq_false_iff_eq,decide_eq_true_eq,decide_eq_false_iff_not,and_true] at hto
      cases hlf
      have hR:=he.ret
    · rw [if_neg (by omega),if_pos (by omega)]
      exact ⟨.slice none 0 0,hR,OwnSeg.nil _ _,hbl⟩
    · rw [if_neg (by omega),if_neg (by omega),if_pos hto.2.2]
      refine ⟨.slice none 0 0,hR.trans ?_,OwnSeg.nil _ _,hbl⟩
      simp only [AV.val,AV.valL,zaM,i18]
      rfl
    · rw [if_neg (by omega),if_neg (by omega),if_neg (by simpa using hto.2.2)]
      obtain ⟨Fs,_,_,u,hq6,hu,_⟩:=he.gho
      have e6:(lcOf j 6).q.getD undef=u:=zcN (ρ:=ρ) hq6
      rw [if_pos hto.2.2] at hu
      refine ⟨u,hR.trans ?_,hu,hbl⟩
      simp only [AV.val,AV.valL,zad,d13,d14,e6,hto.1]
    · rw [if_pos hto]
      refine ⟨.slice none 0 0,hR.trans ?_,OwnSeg.nil _ _,hbl⟩
      simp only [AV.val,AV.valL,zaM,i17]
      rfl
theorem Tryz.ze9 {A:Nat→Prop} {w:World} {M:Nat} {n:Int} {tk:List (Int×PTk)} {ρ:Val} {j:J} {K:Nat→Prop} {g:Gho} {i:Nat} (h:PtW A w M n tk) (hK:K M) {k:Int} {o:Option AV} {ov:Option Value} (hk:(u16v i).den ρ=k) (ho:RO ρ j o ov) (hv: ∀arr clock,w.heap[M]? =some (.map arr clock)→zbm arr k=ov):ShOk ρ j (cxOf w K g) (M,0) (.mapx [(.int .i64 (u16v i),o)]):=by
 obtain ⟨arr,clock,h1,h2,_⟩:=h.map
 refine ⟨hK,rfl,arr,clock,[(k,ov)],h1,h2,⟨k,ov,[],rfl,zac hk,ho,rfl⟩,fun k' o' hm=> ?_⟩
 simp only [List.mem_cons,Prod.mk.injEq,List.not_mem_nil,or_false] at hm
 obtain ⟨rfl,rfl⟩:=hm
 exact hv arr clock h1
theorem Tryz.zJA {ρ:Val} {w0:World} {K:Nat→Prop} {g:Gho} {n x u1 ct:Int} {u2 nd:Bool} (dn:(szv 0).den ρ=n) (e14:(lnv 14).den ρ=ct) (e15:(lnv 15).den ρ=u1) (b8:ρ.b 8=u2) (b9:ρ.b 9=nd) (f15:SE.den ρ (.flds [⟨11,0,4294967295,0,15,0⟩] 0)=x%32768) (f1:SE.den ρ (.flds [⟨11,0,4294967295,15,1,0⟩] 0)=x/32768%2)
  (hnd:nd=znx n (x%32768) (decide (x/32768%2=1)) u1 u2 ct) (hn:1≤n∧n≤32768) (hx:x%32768<n) (hu:0≤u1∧u1<n) (hc:0≤ct∧ct≤n):zaQ prog ρ w0 K g pneE:=by
 have eb:SB.den ρ (.cmp .eql (.flds [⟨11,0,4294967295,15,1,0⟩] 0) (.lit 1))=decide (x/32768%2=1):=by
  rw [zbj,f1,zad]
  by_cases h:x/32768%2=1
  ·rw [h];rfl
  ·rw [decide_eq_false h];exact beq_eq_false_iff_ne.2 h
 exact zaw (Dw.enters_of (by kernel_rfl)) (by rfl) [posV (x%32768) (decide (x/32768%2=1)),posV u1 u2,.int .i64 ct,.int .i64 n] (.tuple #[.bool nd,.int .i64 0]) (fun j=>zab (zbg (zab (zac f15) (zab (zap eb) RL.nil))) (zab (zbg (zab (zac e15) (zab (zap b8) RL.nil))) (zab (zac e14) (zab (zac dn) RL.nil)))) (fun j=>zcC (zab (zap b9) (zab (zac rfl) RL.nil))) (fun w F q hf=>by rw [hnd];exact zEd hn ⟨by omega,hx⟩ hu hc w)
theorem Tryz.zEJ {g:Nat→Int} (hg: ∀j,0≤g j∧g j<256) (a:Nat):0≤zah g a 4∧zah g a 4<4294967296:=zbt g hg a 4
theorem Tryz.zAm {A:Nat→Prop} {w:World} {S P L Bs B M N:Nat} {r:Rg} {s:PS} {g:Nat→Int} (h:PW A w S P L Bs B M N r s g) (hb:s.br=false) (hp:s.ph=1):
  Calls prog 27 #[.pointer (some ⟨S,0,none⟩)] w fun e w'=>e= .returned (.tuple #[.agg #[.int .i64 2,.int .i64 1,.int .i64 s.nx],.int .i64 0])∧PW A w' S P L Bs B M N r (if zcb g s then s.goto 5 else if s.ev then s.goto 2 else ({ s with nn:=true }:PS).stop) g∧Dw.Mv (sK S M B) w w':=by
 obtain ⟨sv,ho,hsv⟩:=h.obj
 have hrg:=h.rg
 have q1:=hrg.bnd
 have q2:=hrg.d
 have q3:=hrg.v
 have q4:=hrg.c
 have hpb:=h.pb
 have hnx:=hpb.nx
 have hus:=hpb.us
 have hou:=hpb.ou
 have hon:=zbh h.tk.rng
 have hN:=h.hN
 have hf:=h.fit
 obtain ⟨hx0,hx1⟩:=zKa h.mem.byte (4096+16*s.nx+14).toNat
 obtain ⟨x,hxx⟩: ∃x,x=zah g (4096+16*s.nx+14).toNat 2:=⟨_,rfl⟩
 rw [←hxx] at hx0 hx1
 have hav:zcb g s=zcs x s.nw:=by unfold zcb;rw [hxx]
 have hd:=zbf hrg hpb (by rw [hou.1];exact hon) [0,x] [zcs x s.nw] (.pointer (some ⟨P,0,none⟩)) sv undef
 have ex:(u16v 11).den (prho r s [0,x] [zcs x s.nw] (.pointer (some ⟨P,0,none⟩)) sv undef)=x:=zbD hx0 hx1
 have b7:((prho r s [0,x] [zcs x s.nw] (.pointer (some ⟨P,0,none⟩)) sv undef)).b 7=zcs x s.nw:=rfl
 generalize prho r s [0,x] [zcs x s.nw] (.pointer (some ⟨P,0,none⟩)) sv undef=ρ at hd ex b7
 have hj2:jOf [(S,0),(M,0)] 2=some ⟨M,0,0,none⟩:=rfl
 have hj1:jOf [(S,0),(M,0)] 1=some ⟨S,0,0,none⟩:=rfl
 have hd4:=hd.d.trans q2
 refine Calls.mono (zaD (ρ:=ρ) (K:=sK S M B) (g:=(memG P L Bs B N [g])) (bl:= [(S,0),(M,0)]) (vals:= [.pointer (some ⟨S,0,none⟩)]) mixed zAk zDT h.kold
  ⟨za6 ho (zcd hd hb (by rw [hp];rfl) hsv.one hj2) (.inl rfl),zco h.tk (.inr (.inl rfl)),trivial⟩ h.apart (za7 h.mem h.mine)
  ⟨zAn hN hd.p (zgR hd4 hd.nx ⟨hnx.1,by omega⟩ ⟨by decide,by decide⟩) (by omega) (by omega) (ex.trans hxx),
   zaw (Dw.enters_of (by kernel_rfl)) (by rfl) [.int .u16 x,.bool s.nw] (.bool (zcs x s.nw)) (fun j=>zab (zac ex) (zab (zap hd.b2) RL.nil)) (fun j=>zap b7) (fun w F q hf=>zF5 ⟨hx0,hx1⟩ w),trivial⟩ (zab (zcj hj1) RL.nil) (zae.2 trivial)) fun e w' hh=> ?_
 obtain ⟨p,hpm,hto,l,hl,j,he⟩:=hh
 have hj1':=he.sub _ _ hj1
 have hj2':=he.sub _ _ hj2
 have lc1:=zag hj1'
 have lc2:=zag hj2'
 have hmv:=he.mv
 have hkA:=h.kA hmv
 obtain ⟨g',hg0,hgm⟩:=zbZ he.gho
 unfold zu9 at hpm
 simp only [List.mem_cons,List.not_mem_nil,or_false] at hpm
 rcases hpm with rfl|rfl|rfl
 all_goals
  simp only [zaa,zae,zaA,zbj,zbC,zcf,zad,hd.n,hd.b0,hd.wr,b7,decide_eq_true_eq,decide_eq_false_iff_not,beq_iff_eq,beq_eq_false_iff_ne,ne_eq,and_true] at hto
  cases hl
  have hO:=(he.rows.1 _ hj1').2 (.inr (.inl rfl)) rfl
  have hM:=he.maps.1 _ hj2'
  cases hg0
  simp only [AV.val,AV.valL,lc1,lc2,hd.n,hd.d,hd.v,hd.c,hd.nx,hd.us,hd.hd,hd.wr,hd.ou,hd.p,hd.sv,zaM,zad,zaA,zbN,hd.op,hd.b0,hd.b1,hd.b2,hd.b3,hd.b4,hd.b5,hd.b6] at hO
  have hR:=he.ret
  simp only [AV.val,AV.valL,zad,hd.nx,hd.us] at hR
 ·rw [hav,if_pos hto]
  exact ⟨hR,h.next hmv hgm ⟨_,hO,hsv.kept hkA⟩ (h.tk.same hkA hM) ⟨h.pb.nx,h.pb.us,h.pb.ou,h.pb.hd,h.pb.wr,by show 5≤11;decide,fun h7=>absurd h7 (by show¬7≤5;decide)⟩,hmv⟩
 ·rw [hav,if_neg (by rw [hto.1];decide),if_pos hto.2]
  exact ⟨hR,h.next hmv hgm ⟨_,hO,hsv.kept hkA⟩ (h.tk.same hkA hM) ⟨h.pb.nx,h.pb.us,h.pb.ou,h.pb.hd,h.pb.wr,by show 2≤11;decide,fun h7=>absurd h7 (by show¬7≤2;decide)⟩,hmv⟩
 ·rw [hav,if_neg (by rw [hto.1];decide),if_neg (by rw [hto.2];decide)]
  exact ⟨hR,h.next hmv hgm ⟨_,hO,hsv.kept hkA⟩ (h.tk.same hkA hM) ⟨h.pb.nx,h.pb.us,h.pb.ou,h.pb.hd,h.pb.wr,by show 0≤11;decide,fun h7=>absurd h7 (by show¬7≤0;decide)⟩,hmv⟩
theorem Tryz.zxA {A:Nat→Prop} {w:World} {S P L Bs B M N:Nat} {r:Rg} {s:PS} {g:Nat→Int} (h:PW A w S P L Bs B M N r s g) (hb:s.br=false) (hp:s.ph=4):
  Calls prog 27 #[.pointer (some ⟨S,0,none⟩)] w fun e w'=>e= .returned (.tuple #[.agg #[.int .i64 2,.int .i64 1,.int .i64 s.nx],.int .i64 0])∧PW A w' S P L Bs B M N r (if zcb g s then s.goto 5 else ({ s with nn:=true }:PS).stop) g∧Dw.Mv (sK S M B) w w':=by
 obtain ⟨sv,ho,hsv⟩:=h.obj
 have hrg:=h.rg
 have q1:=hrg.bnd
 have q2:=hrg.d
 have q3:=hrg.v
 have q4:=hrg.c
 have hpb:=h.pb
 have hnx:=hpb.nx
 have hus:=hpb.us
 have hou:=hpb.ou
 have hon:=zbh h.tk.rng
 have hN:=h.hN
 have hf:=h.fit
 obtain ⟨hx0,hx1⟩:=zKa h.mem.byte (4096+16*s.nx+14).toNat
 obtain ⟨x,hxx⟩: ∃x,x=zah g (4096+16*s.nx+14).toNat 2:=⟨_,rfl⟩
 rw [←hxx] at hx0 hx1
 have hav:zcb g s=zcs x s.nw:=by unfold zcb;rw [hxx]
 have hd:=zbf hrg hpb (by rw [hou.1];exact hon) [0,x] [zcs x s.nw] (.pointer (some ⟨P,0,none⟩)) sv undef
 have ex:(u16v 11).den (prho r s [0,x] [zcs x s.nw] (.pointer (some ⟨P,0,none⟩)) sv undef)=x:=zbD hx0 hx1
 have b7:((prho r s [0,x] [zcs x s.nw] (.pointer (some ⟨P,0,none⟩)) sv undef)).b 7=zcs x s.nw:=rfl
 generalize prho r s [0,x] [zcs x s.nw] (.pointer (some ⟨P,0,none⟩)) sv undef=ρ at hd ex b7
 have hj2:jOf [(S,0),(M,0)] 2=some ⟨M,0,0,none⟩:=rfl
 have hj1:jOf [(S,0),(M,0)] 1=some ⟨S,0,0,none⟩:=rfl
 have hd4:=hd.d.trans q2
 refine Calls.mono (zaD (ρ:=ρ) (K:=sK S M B) (g:=(memG P L Bs B N [g])) (bl:= [(S,0),(M,0)]) (vals:= [.pointer (some ⟨S,0,none⟩)]) mixed zxy zAT h.kold
  ⟨za6 ho (zcd hd hb (by rw [hp];rfl) hsv.one hj2) (.inl rfl),zco h.tk (.inr (.inl rfl)),trivial⟩ h.apart (za7 h.mem h.mine)
  ⟨zAn hN hd.p (zgR hd4 hd.nx ⟨hnx.1,by omega⟩ ⟨by decide,by decide⟩) (by omega) (by omega) (ex.trans hxx),
   zaw (Dw.enters_of (by kernel_rfl)) (by rfl) [.int .u16 x,.bool s.nw] (.bool (zcs x s.nw)) (fun j=>zab (zac ex) (zab (zap hd.b2) RL.nil)) (fun j=>zap b7) (fun w F q hf=>zF5 ⟨hx0,hx1⟩ w),trivial⟩ (zab (zcj hj1) RL.nil) (zae.2 trivial)) fun e w' hh=> ?_
 obtain ⟨p,hpm,hto,l,hl,j,he⟩:=hh
 have hj1':=he.sub _ _ hj1
 have hj2':=he.sub _ _ hj2
 have lc1:=zag hj1'
 have lc2:=zag hj2'
 have hmv:=he.mv
 have hkA:=h.kA hmv
 obtain ⟨g',hg0,hgm⟩:=zbZ he.gho
 unfold zqF at hpm
 simp only [List.mem_cons,List.not_mem_nil,or_false] at hpm
 rcases hpm with rfl|rfl
 all_goals
  simp only [zaa,zae,zaA,zbj,zbC,zcf,zad,hd.n,hd.b0,hd.wr,b7,decide_eq_true_eq,decide_eq_false_iff_not,beq_iff_eq,beq_eq_false_iff_ne,ne_eq,and_true] at hto
  cases hl
  have hO:=(he.rows.1 _ hj1').2 (.inr (.inl rfl)) rfl
  have hM:=he.maps.1 _ hj2'
  cases hg0
  simp only [AV.val,AV.valL,lc1,lc2,hd.n,hd.d,hd.v,hd.c,hd.nx,hd.us,hd.hd,hd.wr,hd.ou,hd.p,hd.sv,zaM,zad,zaA,zbN,hd.op,hd.b0,hd.b1,hd.b2,hd.b3,hd.b4,hd.b5,hd.b6] at hO
  have hR:=he.ret
  simp only [AV.val,AV.valL,zad,hd.nx,hd.us] at hR
 ·rw [hav,if_neg (by rw [hto];decide)]
  exact ⟨hR,h.next hmv hgm ⟨_,hO,hsv.kept hkA⟩ (h.tk.same hkA hM) ⟨h.pb.nx,h.pb.us,h.pb.ou,h.pb.hd,h.pb.wr,by show 0≤11;decide,fun h7=>absurd h7 (by show¬7≤0;decide)⟩,hmv⟩
 ·rw [hav,if_pos hto]
  exact ⟨hR,h.next hmv hgm ⟨_,hO,hsv.kept hkA⟩ (h.tk.same hkA hM) ⟨h.pb.nx,h.pb.us,h.pb.ou,h.pb.hd,h.pb.wr,by show 5≤11;decide,fun h7=>absurd h7 (by show¬7≤5;decide)⟩,hmv⟩
theorem Tryz.zsS {A:Nat→Prop} {w:World} {S P L Bs B M N:Nat} {r:Rg} {s:PS} {g:Nat→Int} (h:PW A w S P L Bs B M N r s g) (hb:s.br=false) (hp:s.ph=3):
  Calls prog 27 #[.pointer (some ⟨S,0,none⟩)] w fun e w'=>e= .returned (.tuple #[.agg #[.int .i64 4,.int .i64 0,.int .i64 0],.int .i64 0])∧PW A w' S P L Bs B M N r (s.goto 4) g∧Dw.Mv (sK S M B) w w':=by
 obtain ⟨sv,ho,hsv⟩:=h.obj
 have hrg:=h.rg
 have q1:=hrg.bnd
 have q2:=hrg.d
 have q3:=hrg.v
 have q4:=hrg.c
 have hpb:=h.pb
 have hnx:=hpb.nx
 have hus:=hpb.us
 have hou:=hpb.ou
 have hon:=zbh h.tk.rng
 have hN:=h.hN
 have hf:=h.fit
 have hd:=zbf hrg hpb (by rw [hou.1];exact hon) [] [] (.pointer (some ⟨P,0,none⟩)) sv undef
 generalize prho r s [] [] (.pointer (some ⟨P,0,none⟩)) sv undef=ρ at hd
 have hj2:jOf [(S,0),(M,0)] 2=some ⟨M,0,0,none⟩:=rfl
 have hj1:jOf [(S,0),(M,0)] 1=some ⟨S,0,0,none⟩:=rfl
 have hd4:=hd.d.trans q2
 refine Calls.mono (zaD (ρ:=ρ) (K:=sK S M B) (g:=(memG P L Bs B N [g])) (bl:= [(S,0),(M,0)]) (vals:= [.pointer (some ⟨S,0,none⟩)]) mixed zxk zAK h.kold
  ⟨za6 ho (zcd hd hb (by rw [hp];rfl) hsv.one hj2) (.inl rfl),zco h.tk (.inr (.inl rfl)),trivial⟩ h.apart (za7 h.mem h.mine)
  trivial (zab (zcj hj1) RL.nil) (zae.2 trivial)) fun e w' hh=> ?_
 obtain ⟨p,hpm,hto,l,hl,j,he⟩:=hh
 have hj1':=he.sub _ _ hj1
 have hj2':=he.sub _ _ hj2
 have lc1:=zag hj1'
 have lc2:=zag hj2'
 have hmv:=he.mv
 have hkA:=h.kA hmv
 obtain ⟨g',hg0,hgm⟩:=zbZ he.gho
 unfold zqj at hpm
 simp only [List.mem_cons,List.not_mem_nil,or_false] at hpm
 rcases hpm with rfl
 all_goals
  simp only [zaa,zae,zaA,zbj,zbC,zcf,zad,hd.n,hd.b0,hd.wr,decide_eq_true_eq,decide_eq_false_iff_not,beq_iff_eq,beq_eq_false_iff_ne,ne_eq,and_true] at hto
  cases hl
  have hO:=(he.rows.1 _ hj1').2 (.inr (.inl rfl)) rfl
  have hM:=he.maps.1 _ hj2'
  cases hg0
  simp only [AV.val,AV.valL,lc1,lc2,hd.n,hd.d,hd.v,hd.c,hd.nx,hd.us,hd.hd,hd.wr,hd.ou,hd.p,hd.sv,zaM,zad,zaA,zbN,hd.op,hd.b0,hd.b1,hd.b2,hd.b3,hd.b4,hd.b5,hd.b6] at hO
  have hR:=he.ret
  simp only [AV.val,AV.valL,zad,hd.nx,hd.us] at hR
 ·exact ⟨hR,h.next hmv hgm ⟨_,hO,hsv.kept hkA⟩ (h.tk.same hkA hM) ⟨h.pb.nx,h.pb.us,h.pb.ou,h.pb.hd,h.pb.wr,by show 4≤11;decide,fun h7=>absurd h7 (by show¬7≤4;decide)⟩,hmv⟩
theorem Tryz.zsR {A:Nat→Prop} {w:World} {S P L Bs B M N:Nat} {r:Rg} {s:PS} {g:Nat→Int} (h:PW A w S P L Bs B M N r s g) (hb:s.br=false) (hp:s.ph=5):
  Calls prog 27 #[.pointer (some ⟨S,0,none⟩)] w fun e w'=>e= .returned (.tuple #[.agg #[.int .i64 4,.int .i64 0,.int .i64 0],.int .i64 0])∧PW A w' S P L Bs B M N r (s.goto 6) g∧Dw.Mv (sK S M B) w w':=by
 obtain ⟨sv,ho,hsv⟩:=h.obj
 have hrg:=h.rg
 have q1:=hrg.bnd
 have q2:=hrg.d
 have q3:=hrg.v
 have q4:=hrg.c
 have hpb:=h.pb
 have hnx:=hpb.nx
 have hus:=hpb.us
 have hou:=hpb.ou
 have hon:=zbh h.tk.rng
 have hN:=h.hN
 have hf:=h.fit
 have hd:=zbf hrg hpb (by rw [hou.1];exact hon) [] [] (.pointer (some ⟨P,0,none⟩)) sv undef
 generalize prho r s [] [] (.pointer (some ⟨P,0,none⟩)) sv undef=ρ at hd
 have hj2:jOf [(S,0),(M,0)] 2=some ⟨M,0,0,none⟩:=rfl
 have hj1:jOf [(S,0),(M,0)] 1=some ⟨S,0,0,none⟩:=rfl
 have hd4:=hd.d.trans q2
 refine Calls.mono (zaD (ρ:=ρ) (K:=sK S M B) (g:=(memG P L Bs B N [g])) (bl:= [(S,0),(M,0)]) (vals:= [.pointer (some ⟨S,0,none⟩)]) mixed zsP zxn h.kold
  ⟨za6 ho (zcd hd hb (by rw [hp];rfl) hsv.one hj2) (.inl rfl),zco h.tk (.inr (.inl rfl)),trivial⟩ h.apart (za7 h.mem h.mine)
  trivial (zab (zcj hj1) RL.nil) (zae.2 trivial)) fun e w' hh=> ?_
 obtain ⟨p,hpm,hto,l,hl,j,he⟩:=hh
 have hj1':=he.sub _ _ hj1
 have hj2':=he.sub _ _ hj2
 have lc1:=zag hj1'
 have lc2:=zag hj2'
 have hmv:=he.mv
 have hkA:=h.kA hmv
 obtain ⟨g',hg0,hgm⟩:=zbZ he.gho
 unfold zmq at hpm
 simp only [List.mem_cons,List.not_mem_nil,or_false] at hpm
 rcases hpm with rfl
 all_goals
  simp only [zaa,zae,zaA,zbj,zbC,zcf,zad,hd.n,hd.b0,hd.wr,decide_eq_true_eq,decide_eq_false_iff_not,beq_iff_eq,beq_eq_false_iff_ne,ne_eq,and_true] at hto
  cases hl
  have hO:=(he.rows.1 _ hj1').2 (.inr (.inl rfl)) rfl
  have hM:=he.maps.1 _ hj2'
  cases hg0
  simp only [AV.val,AV.valL,lc1,lc2,hd.n,hd.d,hd.v,hd.c,hd.nx,hd.us,hd.hd,hd.wr,hd.ou,hd.p,hd.sv,zaM,zad,zaA,zbN,hd.op,hd.b0,hd.b1,hd.b2,hd.b3,hd.b4,hd.b5,hd.b6] at hO
  have hR:=he.ret
  simp only [AV.val,AV.valL,zad,hd.nx,hd.us] at hR
 ·exact ⟨hR,h.next hmv hgm ⟨_,hO,hsv.kept hkA⟩ (h.tk.same hkA hM) ⟨h.pb.nx,h.pb.us,h.pb.ou,h.pb.hd,h.pb.wr,by show 6≤11;decide,fun h7=>absurd h7 (by show¬7≤6;decide)⟩,hmv⟩
theorem Tryz.zsO {A:Nat→Prop} {w:World} {S P L Bs B M N:Nat} {r:Rg} {s:PS} {g:Nat→Int} (h:PW A w S P L Bs B M N r s g) (hb:s.br=false) (hp:s.ph=8):
  Calls prog 27 #[.pointer (some ⟨S,0,none⟩)] w fun e w'=>e= .returned (.tuple #[.agg #[.int .i64 4,.int .i64 0,.int .i64 0],.int .i64 0])∧PW A w' S P L Bs B M N r (s.goto 9) g∧Dw.Mv (sK S M B) w w':=by
 obtain ⟨sv,ho,hsv⟩:=h.obj
 have hrg:=h.rg
 have q1:=hrg.bnd
 have q2:=hrg.d
 have q3:=hrg.v
 have q4:=hrg.c
 have hpb:=h.pb
 have hnx:=hpb.nx
 have hus:=hpb.us
 have hou:=hpb.ou
 have hon:=zbh h.tk.rng
 have hN:=h.hN
 have hf:=h.fit
 have hd:=zbf hrg hpb (by rw [hou.1];exact hon) [] [] (.pointer (some ⟨P,0,none⟩)) sv undef
 generalize prho r s [] [] (.pointer (some ⟨P,0,none⟩)) sv undef=ρ at hd
 have hj2:jOf [(S,0),(M,0)] 2=some ⟨M,0,0,none⟩:=rfl
 have hj1:jOf [(S,0),(M,0)] 1=some ⟨S,0,0,none⟩:=rfl
 have hd4:=hd.d.trans q2
 refine Calls.mono (zaD (ρ:=ρ) (K:=sK S M B) (g:=(memG P L Bs B N [g])) (bl:= [(S,0),(M,0)]) (vals:= [.pointer (some ⟨S,0,none⟩)]) mixed zsM zxm h.kold
  ⟨za6 ho (zcd hd hb (by rw [hp];rfl) hsv.one hj2) (.inl rfl),zco h.tk (.inr (.inl rfl)),trivial⟩ h.apart (za7 h.mem h.mine)
  trivial (zab (zcj hj1) RL.nil) (zae.2 trivial)) fun e w' hh=> ?_
 obtain ⟨p,hpm,hto,l,hl,j,he⟩:=hh
 have hj1':=he.sub _ _ hj1
 have hj2':=he.sub _ _ hj2
 have lc1:=zag hj1'
 have lc2:=zag hj2'
 have hmv:=he.mv
 have hkA:=h.kA hmv
 obtain ⟨g',hg0,hgm⟩:=zbZ he.gho
 unfold zmo at hpm
 simp only [List.mem_cons,List.not_mem_nil,or_false] at hpm
 rcases hpm with rfl
 all_goals
  simp only [zaa,zae,zaA,zbj,zbC,zcf,zad,hd.n,hd.b0,hd.wr,decide_eq_true_eq,decide_eq_false_iff_not,beq_iff_eq,beq_eq_false_iff_ne,ne_eq,and_true] at hto
  cases hl
  have hO:=(he.rows.1 _ hj1').2 (.inr (.inl rfl)) rfl
  have hM:=he.maps.1 _ hj2'
  cases hg0
  simp only [AV.val,AV.valL,lc1,lc2,hd.n,hd.d,hd.v,hd.c,hd.nx,hd.us,hd.hd,hd.wr,hd.ou,hd.p,hd.sv,zaM,zad,zaA,zbN,hd.op,hd.b0,hd.b1,hd.b2,hd.b3,hd.b4,hd.b5,hd.b6] at hO
  have hR:=he.ret
  simp only [AV.val,AV.valL,zad,hd.nx,hd.us] at hR
 ·exact ⟨hR,h.next hmv hgm ⟨_,hO,hsv.kept hkA⟩ (h.tk.same hkA hM) ⟨h.pb.nx,h.pb.us,h.pb.ou,h.pb.hd,h.pb.wr,by show 9≤11;decide,fun _=>h.pb.ret (by omega)⟩,hmv⟩
theorem Tryz.zqn {A:Nat→Prop} {w:World} {S P L Bs B M N:Nat} {r:Rg} {s:PS} {g:Nat→Int} (h:PW A w S P L Bs B M N r s g) (hb:s.br=false) (hp:s.ph=10):
  Calls prog 27 #[.pointer (some ⟨S,0,none⟩)] w fun e w'=>e= .returned (.tuple #[.agg #[.int .i64 4,.int .i64 0,.int .i64 0],.int .i64 0])∧PW A w' S P L Bs B M N r (s.goto 11) g∧Dw.Mv (sK S M B) w w':=by
 obtain ⟨sv,ho,hsv⟩:=h.obj
 have hrg:=h.rg
 have q1:=hrg.bnd
 have q2:=hrg.d
 have q3:=hrg.v
 have q4:=hrg.c
 have hpb:=h.pb
 have hnx:=hpb.nx
 have hus:=hpb.us
 have hou:=hpb.ou
 have hon:=zbh h.tk.rng
 have hN:=h.hN
 have hf:=h.fit
 have hd:=zbf hrg hpb (by rw [hou.1];exact hon) [] [] (.pointer (some ⟨P,0,none⟩)) sv undef
 generalize prho r s [] [] (.pointer (some ⟨P,0,none⟩)) sv undef=ρ at hd
 have hj2:jOf [(S,0),(M,0)] 2=some ⟨M,0,0,none⟩:=rfl
 have hj1:jOf [(S,0),(M,0)] 1=some ⟨S,0,0,none⟩:=rfl
 have hd4:=hd.d.trans q2
 refine Calls.mono (zaD (ρ:=ρ) (K:=sK S M B) (g:=(memG P L Bs B N [g])) (bl:= [(S,0),(M,0)]) (vals:= [.pointer (some ⟨S,0,none⟩)]) mixed zql zsT h.kold
  ⟨za6 ho (zcd hd hb (by rw [hp];rfl) hsv.one hj2) (.inl rfl),zco h.tk (.inr (.inl rfl)),trivial⟩ h.apart (za7 h.mem h.mine)
  trivial (zab (zcj hj1) RL.nil) (zae.2 trivial)) fun e w' hh=> ?_
 obtain ⟨p,hpm,hto,l,hl,j,he⟩:=hh
 have hj1':=he.sub _ _ hj1
 have hj2':=he.sub _ _ hj2
 have lc1:=zag hj1'
 have lc2:=zag hj2'
 have hmv:=he.mv
 have hkA:=h.kA hmv
 obtain ⟨g',hg0,hgm⟩:=zbZ he.gho
 unfold zjV at hpm
 simp only [List.mem_cons,List.not_mem_nil,or_false] at hpm
 rcases hpm with rfl
 all_goals
  simp only [zaa,zae,zaA,zbj,zbC,zcf,zad,hd.n,hd.b0,hd.wr,decide_eq_true_eq,decide_eq_false_iff_not,beq_iff_eq,beq_eq_false_iff_ne,ne_eq,and_true] at hto
  cases hl
  have hO:=(he.rows.1 _ hj1').2 (.inr (.inl rfl)) rfl
  have hM:=he.maps.1 _ hj2'
  cases hg0
  simp only [AV.val,AV.valL,lc1,lc2,hd.n,hd.d,hd.v,hd.c,hd.nx,hd.us,hd.hd,hd.wr,hd.ou,hd.p,hd.sv,zaM,zad,zaA,zbN,hd.op,hd.b0,hd.b1,hd.b2,hd.b3,hd.b4,hd.b5,hd.b6] at hO
  have hR:=he.ret
  simp only [AV.val,AV.valL,zad,hd.nx,hd.us] at hR
 ·exact ⟨hR,h.next hmv hgm ⟨_,hO,hsv.kept hkA⟩ (h.tk.same hkA hM) ⟨h.pb.nx,h.pb.us,h.pb.ou,h.pb.hd,h.pb.wr,by show 11≤11;decide,fun _=>h.pb.ret (by omega)⟩,hmv⟩
theorem Tryz.zxq {A:Nat→Prop} {w:World} {S P L Bs B M N:Nat} {r:Rg} {s:PS} {g:Nat→Int} (h:PW A w S P L Bs B M N r s g) (hb:s.br=false) (hp:s.ph=2):
  Calls prog 27 #[.pointer (some ⟨S,0,none⟩)] w fun e w'=>e= .returned (.tuple #[.agg #[.int .i64 3,.int .i64 11,.int .i64 0],.int .i64 0])∧PW A w' S P L Bs B M N r (s.goto 3) (putW g r.c.toNat 4 (posW s.nx s.nw+131072))∧Dw.Mv (sK S M B) w w':=by
 obtain ⟨sv,ho,hsv⟩:=h.obj
 have hrg:=h.rg
 have q1:=hrg.bnd
 have q2:=hrg.d
 have q3:=hrg.v
 have q4:=hrg.c
 have hpb:=h.pb
 have hnx:=hpb.nx
 have hus:=hpb.us
 have hou:=hpb.ou
 have hon:=zbh h.tk.rng
 have hN:=h.hN
 have hf:=h.fit
 have hx0:0≤posW s.nx s.nw∧posW s.nx s.nw<65536:=by unfold posW;split<;>omega
 obtain ⟨x,hxx⟩: ∃x,x=posW s.nx s.nw:=⟨_,rfl⟩
 rw [←hxx] at hx0
 have hd:=zbf hrg hpb (by rw [hou.1];exact hon) [0,0,0,0,0,0,0,0,x] [] (.pointer (some ⟨P,0,none⟩)) sv undef
 have ex:(u16v 18).den (prho r s [0,0,0,0,0,0,0,0,x] [] (.pointer (some ⟨P,0,none⟩)) sv undef)=x:=zbD hx0.1 hx0.2
 have ei:((prho r s [0,0,0,0,0,0,0,0,x] [] (.pointer (some ⟨P,0,none⟩)) sv undef)).i 18=x:=rfl
 generalize prho r s [0,0,0,0,0,0,0,0,x] [] (.pointer (some ⟨P,0,none⟩)) sv undef=ρ at hd ex ei
 have hj2:jOf [(S,0),(M,0)] 2=some ⟨M,0,0,none⟩:=rfl
 have hj1:jOf [(S,0),(M,0)] 1=some ⟨S,0,0,none⟩:=rfl
 have hd4:=hd.d.trans q2
 refine Calls.mono (zaD (ρ:=ρ) (K:=sK S M B) (g:=(memG P L Bs B N [g,putW g r.c.toNat 4 (x+131072)])) (bl:= [(S,0),(M,0)]) (vals:= [.pointer (some ⟨S,0,none⟩)]) mixed zxo zAP h.kold
  ⟨za6 ho (zcd hd hb (by rw [hp];rfl) hsv.one hj2) (.inl rfl),zco h.tk (.inr (.inl rfl)),trivial⟩ h.apart (za7 h.mem h.mine)
  ⟨zaw (Dw.enters_of (by kernel_rfl)) (by rfl) [posV s.nx s.nw] (.int .u16 x) (fun j=>zab (zbg (zab (zac hd.nx) (zab (zap hd.b2) RL.nil))) RL.nil) (fun j=>zac ex) (fun w F q hf=>by have:=zDM (a:=s.nx) (x:=s.nw) ⟨hnx.1,by omega⟩ w;rw [←hxx] at this;exact this),
   zzQ (k:=4) hN hd.p hd.c (by omega) (.inr (.inr (.inl rfl))) (by omega) (znY (k:=2) (n:=16) (hi:=65535) (c:=131072) ei hx0.1 (by show x≤65535;omega) hx0.2 rfl) (.inr (.inr rfl)),trivial⟩ (zab (zcj hj1) RL.nil) (zae.2 trivial)) fun e w' hh=> ?_
 obtain ⟨p,hpm,hto,l,hl,j,he⟩:=hh
 have hj1':=he.sub _ _ hj1
 have hj2':=he.sub _ _ hj2
 have lc1:=zag hj1'
 have lc2:=zag hj2'
 have hmv:=he.mv
 have hkA:=h.kA hmv
 obtain ⟨g',hg0,hgm⟩:=zbZ he.gho
 unfold zqt at hpm
 simp only [List.mem_cons,List.not_mem_nil,or_false] at hpm
 rcases hpm with rfl
 all_goals
  simp only [zaa,zae,zaA,zbj,zbC,zcf,zad,hd.n,hd.b0,hd.wr,decide_eq_true_eq,decide_eq_false_iff_not,beq_iff_eq,beq_eq_false_iff_ne,ne_eq,and_true] at hto
  cases hl
  have hO:=(he.rows.1 _ hj1').2 (.inr (.inl rfl)) rfl
  have hM:=he.maps.1 _ hj2'
  cases hg0
  simp only [AV.val,AV.valL,lc1,lc2,hd.n,hd.d,hd.v,hd.c,hd.nx,hd.us,hd.hd,hd.wr,hd.ou,hd.p,hd.sv,zaM,zad,zaA,zbN,hd.op,hd.b0,hd.b1,hd.b2,hd.b3,hd.b4,hd.b5,hd.b6] at hO
  have hR:=he.ret
  simp only [AV.val,AV.valL,zad,hd.nx,hd.us] at hR
 ·rw [←hxx]
  exact ⟨hR,h.next hmv hgm ⟨_,hO,hsv.kept hkA⟩ (h.tk.same hkA hM) ⟨h.pb.nx,h.pb.us,h.pb.ou,h.pb.hd,h.pb.wr,by show 3≤11;decide,fun h7=>absurd h7 (by show¬7≤3;decide)⟩,hmv⟩
theorem Tryz.zsL {A:Nat→Prop} {w:World} {S P L Bs B M N:Nat} {r:Rg} {s:PS} {g:Nat→Int} (h:PW A w S P L Bs B M N r s g) (hb:s.br=false) (hp:s.ph=9) (hw: ¬0<s.wr):
  Calls prog 27 #[.pointer (some ⟨S,0,none⟩)] w fun e w'=>e= .returned (.tuple #[.agg #[.int .i64 3,.int .i64 1,.int .i64 s.us],.int .i64 0])∧PW A w' S P L Bs B M N r (s.goto 10) (putW g (4096+16*s.us+14).toNat 2 (0+if s.uw then 32896 else 0))∧Dw.Mv (sK S M B) w w':=by
 obtain ⟨sv,ho,hsv⟩:=h.obj
 have hrg:=h.rg
 have q1:=hrg.bnd
 have q2:=hrg.d
 have q3:=hrg.v
 have q4:=hrg.c
 have hpb:=h.pb
 have hnx:=hpb.nx
 have hus:=hpb.us
 have hou:=hpb.ou
 have hon:=zbh h.tk.rng
 have hN:=h.hN
 have hf:=h.fit
 obtain ⟨x,hxx⟩: ∃x:Int,x=0+(if s.uw then 32896 else 0):=⟨_,rfl⟩
 have hx0:0≤x∧x<65536:=by rw [hxx];split<;>omega
 rw [←hxx]
 have hd:=zbf hrg hpb (by rw [hou.1];exact hon) [0,0,0,0,0,0,0,0,x] [] (.pointer (some ⟨P,0,none⟩)) sv undef
 have ex:(u16v 18).den (prho r s [0,0,0,0,0,0,0,0,x] [] (.pointer (some ⟨P,0,none⟩)) sv undef)=x:=zbD hx0.1 hx0.2
 generalize prho r s [0,0,0,0,0,0,0,0,x] [] (.pointer (some ⟨P,0,none⟩)) sv undef=ρ at hd ex
 have hj2:jOf [(S,0),(M,0)] 2=some ⟨M,0,0,none⟩:=rfl
 have hj1:jOf [(S,0),(M,0)] 1=some ⟨S,0,0,none⟩:=rfl
 have hd4:=hd.d.trans q2
 refine Calls.mono (zaD (ρ:=ρ) (K:=sK S M B) (g:=(memG P L Bs B N [g,putW g (4096+16*s.us+14).toNat 2 x])) (bl:= [(S,0),(M,0)]) (vals:= [.pointer (some ⟨S,0,none⟩)]) mixed zsJ zxj h.kold
  ⟨za6 ho (zcd hd hb (by rw [hp];rfl) hsv.one hj2) (.inl rfl),zco h.tk (.inr (.inl rfl)),trivial⟩ h.apart (za7 h.mem h.mine)
  ⟨zaw (Dw.enters_of (by kernel_rfl)) (by rfl) [.int .u16 0,.bool s.uw,.bool true] (.int .u16 x) (fun j=>zab (zac rfl) (zab (zap hd.b6) (zab (zap rfl) RL.nil))) (fun j=>zac ex) (fun w F q hf=>by rw [hxx];exact zvE (.inl rfl) w),
   zzQ (k:=2) hN hd.p (zgR hd4 hd.us ⟨hus.1,by omega⟩ ⟨by decide,by decide⟩) (by omega) (.inr (.inl rfl)) (by omega) ex (.inr (.inr rfl)),trivial⟩ (zab (zcj hj1) RL.nil) (zaa.2 ⟨by rw [zbC,hd.wr,zad];exact decide_eq_false hw,zae.2 trivial⟩)) fun e w' hh=> ?_
 obtain ⟨p,hpm,hto,l,hl,j,he⟩:=hh
 have hj1':=he.sub _ _ hj1
 have hj2':=he.sub _ _ hj2
 have lc1:=zag hj1'
 have lc2:=zag hj2'
 have hmv:=he.mv
 have hkA:=h.kA hmv
 obtain ⟨g',hg0,hgm⟩:=zbZ he.gho
 unfold zml at hpm
 simp only [List.mem_cons,List.not_mem_nil,or_false] at hpm
 rcases hpm with rfl
 all_goals
  simp only [zaa,zae,zaA,zbj,zbC,zcf,zad,hd.n,hd.b0,hd.wr,decide_eq_true_eq,decide_eq_false_iff_not,beq_iff_eq,beq_eq_false_iff_ne,ne_eq,and_true] at hto
  cases hl
  have hO:=(he.rows.1 _ hj1').2 (.inr (.inl rfl)) rfl
  have hM:=he.maps.1 _ hj2'
  cases hg0
  simp only [AV.val,AV.valL,lc1,lc2,hd.n,hd.d,hd.v,hd.c,hd.nx,hd.us,hd.hd,hd.wr,hd.ou,hd.p,hd.sv,zaM,zad,zaA,zbN,hd.op,hd.b0,hd.b1,hd.b2,hd.b3,hd.b4,hd.b5,hd.b6] at hO
  have hR:=he.ret
  simp only [AV.val,AV.valL,zad,hd.nx,hd.us] at hR
 ·exact ⟨hR,h.next hmv hgm ⟨_,hO,hsv.kept hkA⟩ (h.tk.same hkA hM) ⟨h.pb.nx,h.pb.us,h.pb.ou,h.pb.hd,h.pb.wr,by show 10≤11;decide,fun _=>h.pb.ret (by omega)⟩,hmv⟩
theorem Tryz.zsI {A:Nat→Prop} {w:World} {S P L Bs B M N:Nat} {r:Rg} {s:PS} {g:Nat→Int} (h:PW A w S P L Bs B M N r s g) (hb:s.br=false) (hp:s.ph=9) (hw:0<s.wr):
  Calls prog 27 #[.pointer (some ⟨S,0,none⟩)] w fun e w'=>e= .returned (.tuple #[.agg #[.int .i64 3,.int .i64 1,.int .i64 s.us],.int .i64 0])∧PW A w' S P L Bs B M N r (s.goto 10) (putW g (4096+16*s.us+14).toNat 2 (2+if s.uw then 32896 else 0))∧Dw.Mv (sK S M B) w w':=by
 obtain ⟨sv,ho,hsv⟩:=h.obj
 have hrg:=h.rg
 have q1:=hrg.bnd
 have q2:=hrg.d
 have q3:=hrg.v
 have q4:=hrg.c
 have hpb:=h.pb
 have hnx:=hpb.nx
 have hus:=hpb.us
 have hou:=hpb.ou
 have hon:=zbh h.tk.rng
 have hN:=h.hN
 have hf:=h.fit
 obtain ⟨x,hxx⟩: ∃x:Int,x=2+(if s.uw then 32896 else 0):=⟨_,rfl⟩
 have hx0:0≤x∧x<65536:=by rw [hxx];split<;>omega
 rw [←hxx]
 have hd:=zbf hrg hpb (by rw [hou.1];exact hon) [0,0,0,0,0,0,0,0,x] [] (.pointer (some ⟨P,0,none⟩)) sv undef
 have ex:(u16v 18).den (prho r s [0,0,0,0,0,0,0,0,x] [] (.pointer (some ⟨P,0,none⟩)) sv undef)=x:=zbD hx0.1 hx0.2
 generalize prho r s [0,0,0,0,0,0,0,0,x] [] (.pointer (some ⟨P,0,none⟩)) sv undef=ρ at hd ex
 have hj2:jOf [(S,0),(M,0)] 2=some ⟨M,0,0,none⟩:=rfl
 have hj1:jOf [(S,0),(M,0)] 1=some ⟨S,0,0,none⟩:=rfl
 have hd4:=hd.d.trans q2
 refine Calls.mono (zaD (ρ:=ρ) (K:=sK S M B) (g:=(memG P L Bs B N [g,putW g (4096+16*s.us+14).toNat 2 x])) (bl:= [(S,0),(M,0)]) (vals:= [.pointer (some ⟨S,0,none⟩)]) mixed zsG zxi h.kold
  ⟨za6 ho (zcd hd hb (by rw [hp];rfl) hsv.one hj2) (.inl rfl),zco h.tk (.inr (.inl rfl)),trivial⟩ h.apart (za7 h.mem h.mine)
  ⟨zaw (Dw.enters_of (by kernel_rfl)) (by rfl) [.int .u16 2,.bool s.uw,.bool true] (.int .u16 x) (fun j=>zab (zac rfl) (zab (zap hd.b6) (zab (zap rfl) RL.nil))) (fun j=>zac ex) (fun w F q hf=>by rw [hxx];exact zvE (.inr rfl) w),
   zzQ (k:=2) hN hd.p (zgR hd4 hd.us ⟨hus.1,by omega⟩ ⟨by decide,by decide⟩) (by omega) (.inr (.inl rfl)) (by omega) ex (.inr (.inr rfl)),trivial⟩ (zab (zcj hj1) RL.nil) (zaa.2 ⟨by rw [zbC,hd.wr,zad];exact decide_eq_true hw,zae.2 trivial⟩)) fun e w' hh=> ?_
 obtain ⟨p,hpm,hto,l,hl,j,he⟩:=hh
 have hj1':=he.sub _ _ hj1
 have hj2':=he.sub _ _ hj2
 have lc1:=zag hj1'
 have lc2:=zag hj2'
 have hmv:=he.mv
 have hkA:=h.kA hmv
 obtain ⟨g',hg0,hgm⟩:=zbZ he.gho
 unfold zmj at hpm
 simp only [List.mem_cons,List.not_mem_nil,or_false] at hpm
 rcases hpm with rfl
 all_goals
  simp only [zaa,zae,zaA,zbj,zbC,zcf,zad,hd.n,hd.b0,hd.wr,decide_eq_true_eq,decide_eq_false_iff_not,beq_iff_eq,beq_eq_false_iff_ne,ne_eq,and_true] at hto
  cases hl
  have hO:=(he.rows.1 _ hj1').2 (.inr (.inl rfl)) rfl
  have hM:=he.maps.1 _ hj2'
  cases hg0
  simp only [AV.val,AV.valL,lc1,lc2,hd.n,hd.d,hd.v,hd.c,hd.nx,hd.us,hd.hd,hd.wr,hd.ou,hd.p,hd.sv,zaM,zad,zaA,zbN,hd.op,hd.b0,hd.b1,hd.b2,hd.b3,hd.b4,hd.b5,hd.b6] at hO
  have hR:=he.ret
  simp only [AV.val,AV.valL,zad,hd.nx,hd.us] at hR
 ·exact ⟨hR,h.next hmv hgm ⟨_,hO,hsv.kept hkA⟩ (h.tk.same hkA hM) ⟨h.pb.nx,h.pb.us,h.pb.ou,h.pb.hd,h.pb.wr,by show 10≤11;decide,fun _=>h.pb.ret (by omega)⟩,hmv⟩
theorem Tryz.zw3 {A:Nat→Prop} {w:World} {S P L Bs B M N:Nat} {r:Rg} {s:PS} {g:Nat→Int} (h:PW A w S P L Bs B M N r s g) (hb:s.br=false) (hp:s.ph=11) {t:PTk} (ht:zbk s.hd s.tk=some t) (h0:(zah g r.v.toNat 4)/65536%4=0):
  Calls prog 27 #[.pointer (some ⟨S,0,none⟩)] w fun e w'=>e= .returned (.tuple #[.agg #[.int .i64 2,.int .i64 10,.int .i64 0],.int .i64 0])∧PW A w' S P L Bs B M N r (({ s with us:=(zaL r.n s.us s.uw t.ct).1,uw:=(zaL r.n s.us s.uw t.ct).2,it:=zc4 r.n (zaL r.n s.us s.uw t.ct).1 (zaL r.n s.us s.uw t.ct).2 t.ct (zah g r.v.toNat 4) s.it,tk:=zb5 s.hd s.tk,ou:=s.ou-t.ct }:PS).stop) g∧Dw.Mv (sK S M B) w w':=by
 obtain ⟨sv,ho,hsv⟩:=h.obj
 have hrg:=h.rg
 have q1:=hrg.bnd
 have q2:=hrg.d
 have q3:=hrg.v
 have q4:=hrg.c
 have hpb:=h.pb
 have hnx:=hpb.nx
 have hus:=hpb.us
 have hou:=hpb.ou
 have hon:=zbh h.tk.rng
 have hN:=h.hN
 have hf:=h.fit
 have htr:1≤t.ct∧t.ct≤r.n:=(h.tk.rng _ (zcG ht)).2
 obtain ⟨hx0,hx1⟩:=zEJ h.mem.byte r.v.toNat
 obtain ⟨x,hxx⟩: ∃x,x=zah g r.v.toNat 4:=⟨_,rfl⟩
 rw [←hxx] at hx0 hx1 h0 ⊢
 obtain ⟨u,huu⟩: ∃u,u=zaL r.n s.us s.uw t.ct:=⟨_,rfl⟩
 rw [←huu]
 have hu:0≤u.1∧u.1<r.n:=by rw [huu];unfold zaL;split<;>(simp only;omega)
 obtain ⟨u1,u2⟩:=u
 simp only at hu ⊢
 obtain ⟨nd,hnd⟩: ∃nd,nd=znx r.n (x%32768) (decide (x/32768%2=1)) u1 u2 t.ct:=⟨_,rfl⟩
 obtain ⟨v2,hv2,hv2s⟩: ∃v2,(∀arr clock,w.heap[M]? =some (.map arr clock)→zbm arr s.hd=some (.agg #[.int .i64 s.hd,.int .i64 t.ct,v2]))∧v2.oneCell'=true:=by
  obtain ⟨arr1,clock1,g1,g2,g3⟩:=h.tk.map
  obtain ⟨v0,h1,h2⟩:=(g3 s.hd).2 t ht
  exact ⟨v0,fun arr clock hm=>by rw [g1] at hm;cases hm;exact h1,h2.one⟩
 have hct:IntKind.wrap .i64 (s.ou-t.ct)=s.ou-t.ct:=zbL (by omega) (by omega)
 have hd:=zbf hrg hpb (by rw [hou.1];exact hon) [0,x,0,0,t.ct,u1] [false,u2,nd] (.pointer (some ⟨P,0,none⟩)) sv v2
 have ex:(u32v 11).den (prho r s [0,x,0,0,t.ct,u1] [false,u2,nd] (.pointer (some ⟨P,0,none⟩)) sv v2)=x:=zbx hx0 hx1
 have ei:((prho r s [0,x,0,0,t.ct,u1] [false,u2,nd] (.pointer (some ⟨P,0,none⟩)) sv v2)).i 11=x:=rfl
 have e14:(lnv 14).den (prho r s [0,x,0,0,t.ct,u1] [false,u2,nd] (.pointer (some ⟨P,0,none⟩)) sv v2)=t.ct:=zat (by show 0≤t.ct;omega) (by show t.ct<_;omega)
 have e15:(lnv 15).den (prho r s [0,x,0,0,t.ct,u1] [false,u2,nd] (.pointer (some ⟨P,0,none⟩)) sv v2)=u1:=zat hu.1 (by show u1<_;omega)
 have b8:((prho r s [0,x,0,0,t.ct,u1] [false,u2,nd] (.pointer (some ⟨P,0,none⟩)) sv v2)).b 8=u2:=rfl
 have b9:((prho r s [0,x,0,0,t.ct,u1] [false,u2,nd] (.pointer (some ⟨P,0,none⟩)) sv v2)).b 9=nd:=rfl
 have dv2:((prho r s [0,x,0,0,t.ct,u1] [false,u2,nd] (.pointer (some ⟨P,0,none⟩)) sv v2)).v 2=v2:=rfl
 generalize prho r s [0,x,0,0,t.ct,u1] [false,u2,nd] (.pointer (some ⟨P,0,none⟩)) sv v2=ρ at hd ex ei e14 e15 b8 b9 dv2
 have hj2:jOf [(S,0),(M,0)] 2=some ⟨M,0,0,none⟩:=rfl
 have hj1:jOf [(S,0),(M,0)] 1=some ⟨S,0,0,none⟩:=rfl
 have hd4:=hd.d.trans q2
 have f16:SE.den ρ (.flds [⟨11,0,4294967295,16,2,0⟩] 0)=x/65536%4:=(zbi (by rw [ei];exact hx0) (by rw [ei];show x≤4294967295;omega)).trans (by rw [ei];show x/65536%4*1=_;omega)
 have f15:SE.den ρ (.flds [⟨11,0,4294967295,0,15,0⟩] 0)=x%32768:=(zbi (by rw [ei];exact hx0) (by rw [ei];show x≤4294967295;omega)).trans (by rw [ei];show x/1%32768*1=_;omega)
 have f1:SE.den ρ (.flds [⟨11,0,4294967295,15,1,0⟩] 0)=x/32768%2:=(zbi (by rw [ei];exact hx0) (by rw [ei];show x≤4294967295;omega)).trans (by rw [ei];show x/32768%2*1=_;omega)
 refine Calls.mono (zaD (ρ:=ρ) (K:=sK S M B) (g:=(memG P L Bs B N [g])) (bl:= [(S,0),(M,0)]) (vals:= [.pointer (some ⟨S,0,none⟩)]) mixed zw1 zzK h.kold
  ⟨za6 ho (zcd hd hb (by rw [hp];rfl) hsv.one hj2) (.inl rfl),ze9 h.tk (.inr (.inl rfl)) hd.hd (o:=some (.agg [.int .i64 (u16v 7),.int .i64 (lnv 14),.cst 2 none])) (ov:=some (.agg #[.int .i64 s.hd,.int .i64 t.ct,v2])) ⟨_,rfl,zbg (zab (zac hd.hd) (zab (zac e14) (zab (za5 dv2 hv2s) RL.nil)))⟩ hv2,trivial⟩ h.apart (za7 h.mem h.mine)
  ⟨zno hN hd.p hd.v (by omega) (by omega) (ex.trans hxx),
   zaw (Dw.enters_of (by kernel_rfl)) (by rfl) [posV s.us s.uw,.int .i64 t.ct,.int .i64 r.n] (.tuple #[posV u1 u2,.int .i64 0]) (fun j=>zab (zbg (zab (zac hd.us) (zab (zap hd.b6) RL.nil))) (zab (zac e14) (zab (zac hd.n) RL.nil))) (fun j=>zcC (zab (zbg (zab (zac e15) (zab (zap b8) RL.nil))) (zab (zac rfl) RL.nil))) (fun w F q hf=>by have:=zmK (n:=r.n) (a:=s.us) (c:=t.ct) (x:=s.uw) ⟨q1.1,by omega⟩ hus ⟨by omega,htr.2⟩ w;rw [←huu] at this;exact this),trivial⟩ (zab (zcj hj1) RL.nil) (zaa.2 ⟨by rw [zbj,f16,zad];exact beq_iff_eq.2 h0,zae.2 trivial⟩)) fun e w' hh=> ?_
 obtain ⟨p,hpm,hto,l,hl,j,he⟩:=hh
 have hj1':=he.sub _ _ hj1
 have hj2':=he.sub _ _ hj2
 have lc1:=zag hj1'
 have lc2:=zag hj2'
 have hmv:=he.mv
 have hkA:=h.kA hmv
 obtain ⟨g',hg0,hgm⟩:=zbZ he.gho
 unfold zpt at hpm
 simp only [List.mem_cons,List.not_mem_nil,or_false] at hpm
 rcases hpm with rfl
 all_goals
  simp only [zaa,zae,zaA,zbj,zbC,zcf,zad,hd.n,hd.b0,hd.wr,f16,f15,decide_eq_true_eq,decide_eq_false_iff_not,beq_iff_eq,beq_eq_false_iff_ne,ne_eq,and_true] at hto
  cases hl
  have hO:=(he.rows.1 _ hj1').2 (.inr (.inl rfl)) rfl
  have hM:=he.maps.1 _ hj2'
  cases hg0
  simp only [AV.val,AV.valL,lc1,lc2,hd.n,hd.d,hd.v,hd.c,hd.nx,hd.us,hd.hd,hd.wr,hd.ou,hd.p,hd.sv,zaM,zad,zaA,zbN,hd.op,hd.b0,hd.b1,hd.b2,hd.b3,hd.b4,hd.b5,hd.b6,den_add,zbs,e14,e15,b8,b9,hct] at hO
  have hR:=he.ret
  simp only [AV.val,AV.valL,zad,hd.nx,hd.us] at hR
 ·rw [show zc4 r.n u1 u2 t.ct x s.it=true from by unfold zc4;rw [if_pos h0]]
  refine ⟨hR,h.next hmv hgm ⟨_,hO,hsv.kept hkA⟩ (h.tk.del hkA ?_) ⟨h.pb.nx,hu,⟨?_,?_⟩,h.pb.hd,h.pb.wr,by show 0≤11;decide,fun h7=>absurd h7 (by show¬7≤0;decide)⟩,hmv⟩
  ·obtain ⟨arr,clock,arr0,clock0,m1,m2,m3,m4⟩:=hM
   refine ⟨arr,clock,arr0,clock0,m1,m2,m3,fun k=> ?_⟩
   rw [m4 k]
   simp only [zgB,AV.val,hd.hd,Dw.intOf,Option.map_some,Option.map_none,mlog]
  ·show s.ou-t.ct=zcc (zb5 s.hd s.tk)
   rw [zdI ht,hou.1]
  ·show s.ou-t.ct≤r.n
   omega
theorem Tryz.zsv {A:Nat→Prop} {w:World} {S P L Bs B M N:Nat} {r:Rg} {s:PS} {g:Nat→Int} (h:PW A w S P L Bs B M N r s g) (hb:s.br=false) (hp:s.ph=11) {t:PTk} (ht:zbk s.hd s.tk=some t) (h0: ¬(zah g r.v.toNat 4)/65536%4=0) (h2:(zah g r.v.toNat 4)/65536%4=2) (h3:r.n≤(zah g r.v.toNat 4)%32768):
  Calls prog 27 #[.pointer (some ⟨S,0,none⟩)] w fun e w'=>e= .returned (.tuple #[.agg #[.int .i64 2,.int .i64 10,.int .i64 0],.int .i64 0])∧PW A w' S P L Bs B M N r (({ s with us:=(zaL r.n s.us s.uw t.ct).1,uw:=(zaL r.n s.us s.uw t.ct).2,it:=zc4 r.n (zaL r.n s.us s.uw t.ct).1 (zaL r.n s.us s.uw t.ct).2 t.ct (zah g r.v.toNat 4) s.it,tk:=zb5 s.hd s.tk,ou:=s.ou-t.ct }:PS).stop) g∧Dw.Mv (sK S M B) w w':=by
 obtain ⟨sv,ho,hsv⟩:=h.obj
 have hrg:=h.rg
 have q1:=hrg.bnd
 have q2:=hrg.d
 have q3:=hrg.v
 have q4:=hrg.c
 have hpb:=h.pb
 have hnx:=hpb.nx
 have hus:=hpb.us
 have hou:=hpb.ou
 have hon:=zbh h.tk.rng
 have hN:=h.hN
 have hf:=h.fit
 have htr:1≤t.ct∧t.ct≤r.n:=(h.tk.rng _ (zcG ht)).2
 obtain ⟨hx0,hx1⟩:=zEJ h.mem.byte r.v.toNat
 obtain ⟨x,hxx⟩: ∃x,x=zah g r.v.toNat 4:=⟨_,rfl⟩
 rw [←hxx] at hx0 hx1 h0 h2 h3 ⊢
 obtain ⟨u,huu⟩: ∃u,u=zaL r.n s.us s.uw t.ct:=⟨_,rfl⟩
 rw [←huu]
 have hu:0≤u.1∧u.1<r.n:=by rw [huu];unfold zaL;split<;>(simp only;omega)
 obtain ⟨u1,u2⟩:=u
 simp only at hu ⊢
 obtain ⟨nd,hnd⟩: ∃nd,nd=znx r.n (x%32768) (decide (x/32768%2=1)) u1 u2 t.ct:=⟨_,rfl⟩
 obtain ⟨v2,hv2,hv2s⟩: ∃v2,(∀arr clock,w.heap[M]? =some (.map arr clock)→zbm arr s.hd=some (.agg #[.int .i64 s.hd,.int .i64 t.ct,v2]))∧v2.oneCell'=true:=by
  obtain ⟨arr1,clock1,g1,g2,g3⟩:=h.tk.map
  obtain ⟨v0,h1,h2⟩:=(g3 s.hd).2 t ht
  exact ⟨v0,fun arr clock hm=>by rw [g1] at hm;cases hm;exact h1,h2.one⟩
 have hct:IntKind.wrap .i64 (s.ou-t.ct)=s.ou-t.ct:=zbL (by omega) (by omega)
 have hd:=zbf hrg hpb (by rw [hou.1];exact hon) [0,x,0,0,t.ct,u1] [false,u2,nd] (.pointer (some ⟨P,0,none⟩)) sv v2
 have ex:(u32v 11).den (prho r s [0,x,0,0,t.ct,u1] [false,u2,nd] (.pointer (some ⟨P,0,none⟩)) sv v2)=x:=zbx hx0 hx1
 have ei:((prho r s [0,x,0,0,t.ct,u1] [false,u2,nd] (.pointer (some ⟨P,0,none⟩)) sv v2)).i 11=x:=rfl
 have e14:(lnv 14).den (prho r s [0,x,0,0,t.ct,u1] [false,u2,nd] (.pointer (some ⟨P,0,none⟩)) sv v2)=t.ct:=zat (by show 0≤t.ct;omega) (by show t.ct<_;omega)
 have e15:(lnv 15).den (prho r s [0,x,0,0,t.ct,u1] [false,u2,nd] (.pointer (some ⟨P,0,none⟩)) sv v2)=u1:=zat hu.1 (by show u1<_;omega)
 have b8:((prho r s [0,x,0,0,t.ct,u1] [false,u2,nd] (.pointer (some ⟨P,0,none⟩)) sv v2)).b 8=u2:=rfl
 have b9:((prho r s [0,x,0,0,t.ct,u1] [false,u2,nd] (.pointer (some ⟨P,0,none⟩)) sv v2)).b 9=nd:=rfl
 have dv2:((prho r s [0,x,0,0,t.ct,u1] [false,u2,nd] (.pointer (some ⟨P,0,none⟩)) sv v2)).v 2=v2:=rfl
 generalize prho r s [0,x,0,0,t.ct,u1] [false,u2,nd] (.pointer (some ⟨P,0,none⟩)) sv v2=ρ at hd ex ei e14 e15 b8 b9 dv2
 have hj2:jOf [(S,0),(M,0)] 2=some ⟨M,0,0,none⟩:=rfl
 have hj1:jOf [(S,0),(M,0)] 1=some ⟨S,0,0,none⟩:=rfl
 have hd4:=hd.d.trans q2
 have f16:SE.den ρ (.flds [⟨11,0,4294967295,16,2,0⟩] 0)=x/65536%4:=(zbi (by rw [ei];exact hx0) (by rw [ei];show x≤4294967295;omega)).trans (by rw [ei];show x/65536%4*1=_;omega)
 have f15:SE.den ρ (.flds [⟨11,0,4294967295,0,15,0⟩] 0)=x%32768:=(zbi (by rw [ei];exact hx0) (by rw [ei];show x≤4294967295;omega)).trans (by rw [ei];show x/1%32768*1=_;omega)
 have f1:SE.den ρ (.flds [⟨11,0,4294967295,15,1,0⟩] 0)=x/32768%2:=(zbi (by rw [ei];exact hx0) (by rw [ei];show x≤4294967295;omega)).trans (by rw [ei];show x/32768%2*1=_;omega)
 refine Calls.mono (zaD (ρ:=ρ) (K:=sK S M B) (g:=(memG P L Bs B N [g])) (bl:= [(S,0),(M,0)]) (vals:= [.pointer (some ⟨S,0,none⟩)]) mixed zst zwZ h.kold
  ⟨za6 ho (zcd hd hb (by rw [hp];rfl) hsv.one hj2) (.inl rfl),ze9 h.tk (.inr (.inl rfl)) hd.hd (o:=some (.agg [.int .i64 (u16v 7),.int .i64 (lnv 14),.cst 2 none])) (ov:=some (.agg #[.int .i64 s.hd,.int .i64 t.ct,v2])) ⟨_,rfl,zbg (zab (zac hd.hd) (zab (zac e14) (zab (za5 dv2 hv2s) RL.nil)))⟩ hv2,trivial⟩ h.apart (za7 h.mem h.mine)
  ⟨zno hN hd.p hd.v (by omega) (by omega) (ex.trans hxx),
   zaw (Dw.enters_of (by kernel_rfl)) (by rfl) [posV s.us s.uw,.int .i64 t.ct,.int .i64 r.n] (.tuple #[posV u1 u2,.int .i64 0]) (fun j=>zab (zbg (zab (zac hd.us) (zab (zap hd.b6) RL.nil))) (zab (zac e14) (zab (zac hd.n) RL.nil))) (fun j=>zcC (zab (zbg (zab (zac e15) (zab (zap b8) RL.nil))) (zab (zac rfl) RL.nil))) (fun w F q hf=>by have:=zmK (n:=r.n) (a:=s.us) (c:=t.ct) (x:=s.uw) ⟨q1.1,by omega⟩ hus ⟨by omega,htr.2⟩ w;rw [←huu] at this;exact this),trivial⟩ (zab (zcj hj1) RL.nil) (zaa.2 ⟨by rw [zbj,f16,zad];exact beq_eq_false_iff_ne.2 h0,(zaa.2 ⟨by rw [zbj,f16,zad];exact beq_iff_eq.2 h2,(zaa.2 ⟨by rw [zcf,f15,hd.n];exact decide_eq_true (by omega),zae.2 trivial⟩)⟩)⟩)) fun e w' hh=> ?_
 obtain ⟨p,hpm,hto,l,hl,j,he⟩:=hh
 have hj1':=he.sub _ _ hj1
 have hj2':=he.sub _ _ hj2
 have lc1:=zag hj1'
 have lc2:=zag hj2'
 have hmv:=he.mv
 have hkA:=h.kA hmv
 obtain ⟨g',hg0,hgm⟩:=zbZ he.gho
 unfold zlK at hpm
 simp only [List.mem_cons,List.not_mem_nil,or_false] at hpm
 rcases hpm with rfl
 all_goals
  simp only [zaa,zae,zaA,zbj,zbC,zcf,zad,hd.n,hd.b0,hd.wr,f16,f15,decide_eq_true_eq,decide_eq_false_iff_not,beq_iff_eq,beq_eq_false_iff_ne,ne_eq,and_true] at hto
  cases hl
  have hO:=(he.rows.1 _ hj1').2 (.inr (.inl rfl)) rfl
  have hM:=he.maps.1 _ hj2'
  cases hg0
  simp only [AV.val,AV.valL,lc1,lc2,hd.n,hd.d,hd.v,hd.c,hd.nx,hd.us,hd.hd,hd.wr,hd.ou,hd.p,hd.sv,zaM,zad,zaA,zbN,hd.op,hd.b0,hd.b1,hd.b2,hd.b3,hd.b4,hd.b5,hd.b6,den_add,zbs,e14,e15,b8,b9,hct] at hO
  have hR:=he.ret
  simp only [AV.val,AV.valL,zad,hd.nx,hd.us] at hR
 ·rw [show zc4 r.n u1 u2 t.ct x s.it=true from by unfold zc4;rw [if_neg h0,if_pos h2,if_neg (by omega)]]
  refine ⟨hR,h.next hmv hgm ⟨_,hO,hsv.kept hkA⟩ (h.tk.del hkA ?_) ⟨h.pb.nx,hu,⟨?_,?_⟩,h.pb.hd,h.pb.wr,by show 0≤11;decide,fun h7=>absurd h7 (by show¬7≤0;decide)⟩,hmv⟩
  ·obtain ⟨arr,clock,arr0,clock0,m1,m2,m3,m4⟩:=hM
   refine ⟨arr,clock,arr0,clock0,m1,m2,m3,fun k=> ?_⟩
   rw [m4 k]
   simp only [zgB,AV.val,hd.hd,Dw.intOf,Option.map_some,Option.map_none,mlog]
  ·show s.ou-t.ct=zcc (zb5 s.hd s.tk)
   rw [zdI ht,hou.1]
  ·show s.ou-t.ct≤r.n
   omega
theorem Tryz.zsy {A:Nat→Prop} {w:World} {S P L Bs B M N:Nat} {r:Rg} {s:PS} {g:Nat→Int} (h:PW A w S P L Bs B M N r s g) (hb:s.br=false) (hp:s.ph=11) {t:PTk} (ht:zbk s.hd s.tk=some t) (h0: ¬(zah g r.v.toNat 4)/65536%4=0) (h2:(zah g r.v.toNat 4)/65536%4=2) (h3:(zah g r.v.toNat 4)%32768<r.n):
  Calls prog 27 #[.pointer (some ⟨S,0,none⟩)] w fun e w'=>e= .returned (.tuple #[.agg #[.int .i64 2,.int .i64 10,.int .i64 0],.int .i64 0])∧PW A w' S P L Bs B M N r (({ s with us:=(zaL r.n s.us s.uw t.ct).1,uw:=(zaL r.n s.us s.uw t.ct).2,it:=zc4 r.n (zaL r.n s.us s.uw t.ct).1 (zaL r.n s.us s.uw t.ct).2 t.ct (zah g r.v.toNat 4) s.it,tk:=zb5 s.hd s.tk,ou:=s.ou-t.ct }:PS).stop) g∧Dw.Mv (sK S M B) w w':=by
 obtain ⟨sv,ho,hsv⟩:=h.obj
 have hrg:=h.rg
 have q1:=hrg.bnd
 have q2:=hrg.d
 have q3:=hrg.v
 have q4:=hrg.c
 have hpb:=h.pb
 have hnx:=hpb.nx
 have hus:=hpb.us
 have hou:=hpb.ou
 have hon:=zbh h.tk.rng
 have hN:=h.hN
 have hf:=h.fit
 have htr:1≤t.ct∧t.ct≤r.n:=(h.tk.rng _ (zcG ht)).2
 obtain ⟨hx0,hx1⟩:=zEJ h.mem.byte r.v.toNat
 obtain ⟨x,hxx⟩: ∃x,x=zah g r.v.toNat 4:=⟨_,rfl⟩
 rw [←hxx] at hx0 hx1 h0 h2 h3 ⊢
 obtain ⟨u,huu⟩: ∃u,u=zaL r.n s.us s.uw t.ct:=⟨_,rfl⟩
 rw [←huu]
 have hu:0≤u.1∧u.1<r.n:=by rw [huu];unfold zaL;split<;>(simp only;omega)
 obtain ⟨u1,u2⟩:=u
 simp only at hu ⊢
 obtain ⟨nd,hnd⟩: ∃nd,nd=znx r.n (x%32768) (decide (x/32768%2=1)) u1 u2 t.ct:=⟨_,rfl⟩
 obtain ⟨v2,hv2,hv2s⟩: ∃v2,(∀arr clock,w.heap[M]? =some (.map arr clock)→zbm arr s.hd=some (.agg #[.int .i64 s.hd,.int .i64 t.ct,v2]))∧v2.oneCell'=true:=by
  obtain ⟨arr1,clock1,g1,g2,g3⟩:=h.tk.map
  obtain ⟨v0,h1,h2⟩:=(g3 s.hd).2 t ht
  exact ⟨v0,fun arr clock hm=>by rw [g1] at hm;cases hm;exact h1,h2.one⟩
 have hct:IntKind.wrap .i64 (s.ou-t.ct)=s.ou-t.ct:=zbL (by omega) (by omega)
 have hd:=zbf hrg hpb (by rw [hou.1];exact hon) [0,x,0,0,t.ct,u1] [false,u2,nd] (.pointer (some ⟨P,0,none⟩)) sv v2
 have ex:(u32v 11).den (prho r s [0,x,0,0,t.ct,u1] [false,u2,nd] (.pointer (some ⟨P,0,none⟩)) sv v2)=x:=zbx hx0 hx1
 have ei:((prho r s [0,x,0,0,t.ct,u1] [false,u2,nd] (.pointer (some ⟨P,0,none⟩)) sv v2)).i 11=x:=rfl
 have e14:(lnv 14).den (prho r s [0,x,0,0,t.ct,u1] [false,u2,nd] (.pointer (some ⟨P,0,none⟩)) sv v2)=t.ct:=zat (by show 0≤t.ct;omega) (by show t.ct<_;omega)
 have e15:(lnv 15).den (prho r s [0,x,0,0,t.ct,u1] [false,u2,nd] (.pointer (some ⟨P,0,none⟩)) sv v2)=u1:=zat hu.1 (by show u1<_;omega)
 have b8:((prho r s [0,x,0,0,t.ct,u1] [false,u2,nd] (.pointer (some ⟨P,0,none⟩)) sv v2)).b 8=u2:=rfl
 have b9:((prho r s [0,x,0,0,t.ct,u1] [false,u2,nd] (.pointer (some ⟨P,0,none⟩)) sv v2)).b 9=nd:=rfl
 have dv2:((prho r s [0,x,0,0,t.ct,u1] [false,u2,nd] (.pointer (some ⟨P,0,none⟩)) sv v2)).v 2=v2:=rfl
 generalize prho r s [0,x,0,0,t.ct,u1] [false,u2,nd] (.pointer (some ⟨P,0,none⟩)) sv v2=ρ at hd ex ei e14 e15 b8 b9 dv2
 have hj2:jOf [(S,0),(M,0)] 2=some ⟨M,0,0,none⟩:=rfl
 have hj1:jOf [(S,0),(M,0)] 1=some ⟨S,0,0,none⟩:=rfl
 have hd4:=hd.d.trans q2
 have f16:SE.den ρ (.flds [⟨11,0,4294967295,16,2,0⟩] 0)=x/65536%4:=(zbi (by rw [ei];exact hx0) (by rw [ei];show x≤4294967295;omega)).trans (by rw [ei];show x/65536%4*1=_;omega)
 have f15:SE.den ρ (.flds [⟨11,0,4294967295,0,15,0⟩] 0)=x%32768:=(zbi (by rw [ei];exact hx0) (by rw [ei];show x≤4294967295;omega)).trans (by rw [ei];show x/1%32768*1=_;omega)
 have f1:SE.den ρ (.flds [⟨11,0,4294967295,15,1,0⟩] 0)=x/32768%2:=(zbi (by rw [ei];exact hx0) (by rw [ei];show x≤4294967295;omega)).trans (by rw [ei];show x/32768%2*1=_;omega)
 refine Calls.mono (zaD (ρ:=ρ) (K:=sK S M B) (g:=(memG P L Bs B N [g])) (bl:= [(S,0),(M,0)]) (vals:= [.pointer (some ⟨S,0,none⟩)]) mixed zsw zw0 h.kold
  ⟨za6 ho (zcd hd hb (by rw [hp];rfl) hsv.one hj2) (.inl rfl),ze9 h.tk (.inr (.inl rfl)) hd.hd (o:=some (.agg [.int .i64 (u16v 7),.int .i64 (lnv 14),.cst 2 none])) (ov:=some (.agg #[.int .i64 s.hd,.int .i64 t.ct,v2])) ⟨_,rfl,zbg (zab (zac hd.hd) (zab (zac e14) (zab (za5 dv2 hv2s) RL.nil)))⟩ hv2,trivial⟩ h.apart (za7 h.mem h.mine)
  ⟨zno hN hd.p hd.v (by omega) (by omega) (ex.trans hxx),
   zaw (Dw.enters_of (by kernel_rfl)) (by rfl) [posV s.us s.uw,.int .i64 t.ct,.int .i64 r.n] (.tuple #[posV u1 u2,.int .i64 0]) (fun j=>zab (zbg (zab (zac hd.us) (zab (zap hd.b6) RL.nil))) (zab (zac e14) (zab (zac hd.n) RL.nil))) (fun j=>zcC (zab (zbg (zab (zac e15) (zab (zap b8) RL.nil))) (zab (zac rfl) RL.nil))) (fun w F q hf=>by have:=zmK (n:=r.n) (a:=s.us) (c:=t.ct) (x:=s.uw) ⟨q1.1,by omega⟩ hus ⟨by omega,htr.2⟩ w;rw [←huu] at this;exact this),
   zJA hd.n e14 e15 b8 b9 f15 f1 hnd ⟨q1.1,by omega⟩ h3 hu ⟨by omega,htr.2⟩,trivial⟩ (zab (zcj hj1) RL.nil) (zaa.2 ⟨by rw [zbj,f16,zad];exact beq_eq_false_iff_ne.2 h0,(zaa.2 ⟨by rw [zbj,f16,zad];exact beq_iff_eq.2 h2,(zaa.2 ⟨by rw [zcf,f15,hd.n];exact decide_eq_false (by omega),zae.2 trivial⟩)⟩)⟩)) fun e w' hh=> ?_
 obtain ⟨p,hpm,hto,l,hl,j,he⟩:=hh
 have hj1':=he.sub _ _ hj1
 have hj2':=he.sub _ _ hj2
 have lc1:=zag hj1'
 have lc2:=zag hj2'
 have hmv:=he.mv
 have hkA:=h.kA hmv
 obtain ⟨g',hg0,hgm⟩:=zbZ he.gho
 unfold zlM at hpm
 simp only [List.mem_cons,List.not_mem_nil,or_false] at hpm
 rcases hpm with rfl
 all_goals
  simp only [zaa,zae,zaA,zbj,zbC,zcf,zad,hd.n,hd.b0,hd.wr,f16,f15,decide_eq_true_eq,decide_eq_false_iff_not,beq_iff_eq,beq_eq_false_iff_ne,ne_eq,and_true] at hto
  cases hl
  have hO:=(he.rows.1 _ hj1').2 (.inr (.inl rfl)) rfl
  have hM:=he.maps.1 _ hj2'
  cases hg0
  simp only [AV.val,AV.valL,lc1,lc2,hd.n,hd.d,hd.v,hd.c,hd.nx,hd.us,hd.hd,hd.wr,hd.ou,hd.p,hd.sv,zaM,zad,zaA,zbN,hd.op,hd.b0,hd.b1,hd.b2,hd.b3,hd.b4,hd.b5,hd.b6,den_add,zbs,e14,e15,b8,b9,hct] at hO
  have hR:=he.ret
  simp only [AV.val,AV.valL,zad,hd.nx,hd.us] at hR
 ·rw [show zc4 r.n u1 u2 t.ct x s.it=nd from by unfold zc4;rw [if_neg h0,if_pos h2,if_pos h3,←hnd]]
  refine ⟨hR,h.next hmv hgm ⟨_,hO,hsv.kept hkA⟩ (h.tk.del hkA ?_) ⟨h.pb.nx,hu,⟨?_,?_⟩,h.pb.hd,h.pb.wr,by show 0≤11;decide,fun h7=>absurd h7 (by show¬7≤0;decide)⟩,hmv⟩
  ·obtain ⟨arr,clock,arr0,clock0,m1,m2,m3,m4⟩:=hM
   refine ⟨arr,clock,arr0,clock0,m1,m2,m3,fun k=> ?_⟩
   rw [m4 k]
   simp only [zgB,AV.val,hd.hd,Dw.intOf,Option.map_some,Option.map_none,mlog]
  ·show s.ou-t.ct=zcc (zb5 s.hd s.tk)
   rw [zdI ht,hou.1]
  ·show s.ou-t.ct≤r.n
   omega
theorem Tryz.zwY {A:Nat→Prop} {w:World} {S P L Bs B M N:Nat} {r:Rg} {s:PS} {g:Nat→Int} (h:PW A w S P L Bs B M N r s g) (hb:s.br=false) (hp:s.ph=11) {t:PTk} (ht:zbk s.hd s.tk=some t) (h0: ¬(zah g r.v.toNat 4)/65536%4=0) (h2: ¬(zah g r.v.toNat 4)/65536%4=2):
  Calls prog 27 #[.pointer (some ⟨S,0,none⟩)] w fun e w'=>e= .returned (.tuple #[.agg #[.int .i64 2,.int .i64 10,.int .i64 0],.int .i64 0])∧PW A w' S P L Bs B M N r (({ s with us:=(zaL r.n s.us s.uw t.ct).1,uw:=(zaL r.n s.us s.uw t.ct).2,it:=zc4 r.n (zaL r.n s.us s.uw t.ct).1 (zaL r.n s.us s.uw t.ct).2 t.ct (zah g r.v.toNat 4) s.it,tk:=zb5 s.hd s.tk,ou:=s.ou-t.ct }:PS).stop) g∧Dw.Mv (sK S M B) w w':=by
 obtain ⟨sv,ho,hsv⟩:=h.obj
 have hrg:=h.rg
 have q1:=hrg.bnd
 have q2:=hrg.d
 have q3:=hrg.v
 have q4:=hrg.c
 have hpb:=h.pb
 have hnx:=hpb.nx
 have hus:=hpb.us
 have hou:=hpb.ou
 have hon:=zbh h.tk.rng
 have hN:=h.hN
 have hf:=h.fit
 have htr:1≤t.ct∧t.ct≤r.n:=(h.tk.rng _ (zcG ht)).2
 obtain ⟨hx0,hx1⟩:=zEJ h.mem.byte r.v.toNat
 obtain ⟨x,hxx⟩: ∃x,x=zah g r.v.toNat 4:=⟨_,rfl⟩
 rw [←hxx] at hx0 hx1 h0 h2 ⊢
 obtain ⟨u,huu⟩: ∃u,u=zaL r.n s.us s.uw t.ct:=⟨_,rfl⟩
 rw [←huu]
 have hu:0≤u.1∧u.1<r.n:=by rw [huu];unfold zaL;split<;>(simp only;omega)
 obtain ⟨u1,u2⟩:=u
 simp only at hu ⊢
 obtain ⟨nd,hnd⟩: ∃nd,nd=znx r.n (x%32768) (decide (x/32768%2=1)) u1 u2 t.ct:=⟨_,rfl⟩
 obtain ⟨v2,hv2,hv2s⟩: ∃v2,(∀arr clock,w.heap[M]? =some (.map arr clock)→zbm arr s.hd=some (.agg #[.int .i64 s.hd,.int .i64 t.ct,v2]))∧v2.oneCell'=true:=by
  obtain ⟨arr1,clock1,g1,g2,g3⟩:=h.tk.map
  obtain ⟨v0,h1,h2⟩:=(g3 s.hd).2 t ht
  exact ⟨v0,fun arr clock hm=>by rw [g1] at hm;cases hm;exact h1,h2.one⟩
 have hct:IntKind.wrap .i64 (s.ou-t.ct)=s.ou-t.ct:=zbL (by omega) (by omega)
 have hd:=zbf hrg hpb (by rw [hou.1];exact hon) [0,x,0,0,t.ct,u1] [false,u2,nd] (.pointer (some ⟨P,0,none⟩)) sv v2
 have ex:(u32v 11).den (prho r s [0,x,0,0,t.ct,u1] [false,u2,nd] (.pointer (some ⟨P,0,none⟩)) sv v2)=x:=zbx hx0 hx1
 have ei:((prho r s [0,x,0,0,t.ct,u1] [false,u2,nd] (.pointer (some ⟨P,0,none⟩)) sv v2)).i 11=x:=rfl
 have e14:(lnv 14).den (prho r s [0,x,0,0,t.ct,u1] [false,u2,nd] (.pointer (some ⟨P,0,none⟩)) sv v2)=t.ct:=zat (by show 0≤t.ct;omega) (by show t.ct<_;omega)
 have e15:(lnv 15).den (prho r s [0,x,0,0,t.ct,u1] [false,u2,nd] (.pointer (some ⟨P,0,none⟩)) sv v2)=u1:=zat hu.1 (by show u1<_;omega)
 have b8:((prho r s [0,x,0,0,t.ct,u1] [false,u2,nd] (.pointer (some ⟨P,0,none⟩)) sv v2)).b 8=u2:=rfl
 have b9:((prho r s [0,x,0,0,t.ct,u1] [false,u2,nd] (.pointer (some ⟨P,0,none⟩)) sv v2)).b 9=nd:=rfl
 have dv2:((prho r s [0,x,0,0,t.ct,u1] [false,u2,nd] (.pointer (some ⟨P,0,none⟩)) sv v2)).v 2=v2:=rfl
 generalize prho r s [0,x,0,0,t.ct,u1] [false,u2,nd] (.pointer (some ⟨P,0,none⟩)) sv v2=ρ at hd ex ei e14 e15 b8 b9 dv2
 have hj2:jOf [(S,0),(M,0)] 2=some ⟨M,0,0,none⟩:=rfl
 have hj1:jOf [(S,0),(M,0)] 1=some ⟨S,0,0,none⟩:=rfl
 have hd4:=hd.d.trans q2
 have f16:SE.den ρ (.flds [⟨11,0,4294967295,16,2,0⟩] 0)=x/65536%4:=(zbi (by rw [ei];exact hx0) (by rw [ei];show x≤4294967295;omega)).trans (by rw [ei];show x/65536%4*1=_;omega)
 have f15:SE.den ρ (.flds [⟨11,0,4294967295,0,15,0⟩] 0)=x%32768:=(zbi (by rw [ei];exact hx0) (by rw [ei];show x≤4294967295;omega)).trans (by rw [ei];show x/1%32768*1=_;omega)
 have f1:SE.den ρ (.flds [⟨11,0,4294967295,15,1,0⟩] 0)=x/32768%2:=(zbi (by rw [ei];exact hx0) (by rw [ei];show x≤4294967295;omega)).trans (by rw [ei];show x/32768%2*1=_;omega)
 refine Calls.mono (zaD (ρ:=ρ) (K:=sK S M B) (g:=(memG P L Bs B N [g])) (bl:= [(S,0),(M,0)]) (vals:= [.pointer (some ⟨S,0,none⟩)]) mixed zwW zzJ h.kold
  ⟨za6 ho (zcd hd hb (by rw [hp];rfl) hsv.one hj2) (.inl rfl),ze9 h.tk (.inr (.inl rfl)) hd.hd (o:=some (.agg [.int .i64 (u16v 7),.int .i64 (lnv 14),.cst 2 none])) (ov:=some (.agg #[.int .i64 s.hd,.int .i64 t.ct,v2])) ⟨_,rfl,zbg (zab (zac hd.hd) (zab (zac e14) (zab (za5 dv2 hv2s) RL.nil)))⟩ hv2,trivial⟩ h.apart (za7 h.mem h.mine)
  ⟨zno hN hd.p hd.v (by omega) (by omega) (ex.trans hxx),
   zaw (Dw.enters_of (by kernel_rfl)) (by rfl) [posV s.us s.uw,.int .i64 t.ct,.int .i64 r.n] (.tuple #[posV u1 u2,.int .i64 0]) (fun j=>zab (zbg (zab (zac hd.us) (zab (zap hd.b6) RL.nil))) (zab (zac e14) (zab (zac hd.n) RL.nil))) (fun j=>zcC (zab (zbg (zab (zac e15) (zab (zap b8) RL.nil))) (zab (zac rfl) RL.nil))) (fun w F q hf=>by have:=zmK (n:=r.n) (a:=s.us) (c:=t.ct) (x:=s.uw) ⟨q1.1,by omega⟩ hus ⟨by omega,htr.2⟩ w;rw [←huu] at this;exact this),trivial⟩ (zab (zcj hj1) RL.nil) (zaa.2 ⟨by rw [zbj,f16,zad];exact beq_eq_false_iff_ne.2 h0,(zaa.2 ⟨by rw [zbj,f16,zad];exact beq_eq_false_iff_ne.2 h2,zae.2 trivial⟩)⟩)) fun e w' hh=> ?_
 obtain ⟨p,hpm,hto,l,hl,j,he⟩:=hh
 have hj1':=he.sub _ _ hj1
 have hj2':=he.sub _ _ hj2
 have lc1:=zag hj1'
 have lc2:=zag hj2'
 have hmv:=he.mv
 have hkA:=h.kA hmv
 obtain ⟨g',hg0,hgm⟩:=zbZ he.gho
 unfold zpr at hpm
 simp only [List.mem_cons,List.not_mem_nil,or_false] at hpm
 rcases hpm with rfl
 all_goals
  simp only [zaa,zae,zaA,zbj,zbC,zcf,zad,hd.n,hd.b0,hd.wr,f16,f15,decide_eq_true_eq,decide_eq_false_iff_not,beq_iff_eq,beq_eq_false_iff_ne,ne_eq,and_true] at hto
  cases hl
  have hO:=(he.rows.1 _ hj1').2 (.inr (.inl rfl)) rfl
  have hM:=he.maps.1 _ hj2'
  cases hg0
  simp only [AV.val,AV.valL,lc1,lc2,hd.n,hd.d,hd.v,hd.c,hd.nx,hd.us,hd.hd,hd.wr,hd.ou,hd.p,hd.sv,zaM,zad,zaA,zbN,hd.op,hd.b0,hd.b1,hd.b2,hd.b3,hd.b4,hd.b5,hd.b6,den_add,zbs,e14,e15,b8,b9,hct] at hO
  have hR:=he.ret
  simp only [AV.val,AV.valL,zad,hd.nx,hd.us] at hR
 ·rw [show zc4 r.n u1 u2 t.ct x s.it=s.it from by unfold zc4;rw [if_neg h0,if_neg h2]]
  refine ⟨hR,h.next hmv hgm ⟨_,hO,hsv.kept hkA⟩ (h.tk.del hkA ?_) ⟨h.pb.nx,hu,⟨?_,?_⟩,h.pb.hd,h.pb.wr,by show 0≤11;decide,fun h7=>absurd h7 (by show¬7≤0;decide)⟩,hmv⟩
  ·obtain ⟨arr,clock,arr0,clock0,m1,m2,m3,m4⟩:=hM
   refine ⟨arr,clock,arr0,clock0,m1,m2,m3,fun k=> ?_⟩
   rw [m4 k]
   simp only [zgB,AV.val,hd.hd,Dw.intOf,Option.map_some,Option.map_none,mlog]
  ·show s.ou-t.ct=zcc (zb5 s.hd s.tk)
   rw [zdI ht,hou.1]
  ·show s.ou-t.ct≤r.n
   omega
open Go.Maps Go.Sort
theorem Tryz.zwM (a:Option Addr) (n c:Nat) (w:World):(binOp .eql 40 (.slice a n c) (.slice none 0 0)).run prog w= .ok (.bool a.isNone) w:=by
 simp only [binOp]
 simp [run_equal_slice_nil w 40 43 _ _ _ underlying40]
set_option maxRecDepth 100000 in
theorem Tryz.zmt {A:Nat→Prop} {w:World} {v:Value} {l:List Sg} (h:SegV A w v l) (hl:l.length≤1000000):
    Calls prog 57 #[v] w fun e w'=> ∃u,e= .returned u∧OwnSeg w' w.heap.size u l∧Below w.heap.size w w':=by
  obtain ⟨sa,c,rfl,hok,hr⟩:=h
  have hq:=zwM
  obtain ⟨i0,hi0,hz0,hz1,hzb⟩:=info_parts zBz
  have hseg1:=zpf l
  cases sa with
  | none=>
    have h0:l= []:=by
      rcases hr with h|⟨R,o,h,_⟩
      · exact h
      · cases h
    subst h0
    go_enter func57,ntmps57
    go_wp2
    go_ret
    exact ⟨_,rfl,OwnSeg.nil _ _,Below.refl _ _⟩
  | some ad=>
    have hmade:=World.ownsRow_made (base:=w.heap.size) (e:=43) (size:=3) w #[] 0 (Nat.le_refl _) (by unfold maxLen;omega) rfl
    have hb0:=(Below.refl w.heap.size w).alloc (Nat.le_refl _) (.cells #[] 43)
    have hnews: ∀j u,(zaS l)[j]? =some u→(w.alloc (.cells #[] 43)).cell? (ad.add j)=some u:=fun j u hj=>by
      rcases hr with h|⟨R,o,h,_,hr⟩
      · subst h;cases hj
      · cases h
        have hlt:R<w.heap.size:=World.block_lt_of_cell? w _ (hr j u hj)
        rw [Dw.addr_add]
        exact (World.cell?_of_block (a:=⟨R,o+j,none⟩) (Below.heap_alloc w _ R hlt)).trans (hr j u hj)
    have hlen:=zcn l
    go_enter func57,ntmps57
    go_wp2_with (first
      | (at_builtin;go_loud (refine wpList_append_own _ rfl _ _ 40 rfl w.heap.size 43 i0 _ 3 16 (by kernel_rfl) hi0 hz0 hz1 hzb rfl (by decide) _ _ _ rfl hmade ad l.length c (zaS l) rfl (by omega) hnews hseg1 (by unfold maxLen;omega) (by omega) (by simp) ?_);intro v' w3 hown' hg3 _;go_frame)
      | go_in)
    go_ret
    have hown2:OwnSeg w3 w.heap.size v' l:=by unfold OwnSeg;simpa using hown'
    refine ⟨_,rfl,hown2,hb0.grown hg3 (by simp) (fun j hj=> ?_)⟩
    exact (hmade.lt j hj).1
theorem Tryz.zD3 {N:Nat} {g:Nat→Int} (hg: ∀j,0≤g j∧g j<256) {n at0:Int} {tb:Bool} (hn:1≤n):(zbW N g n at0 tb).e=0→(0≤(zbW N g n at0 tb).id∧(zbW N g n at0 tb).id<n)∧(1≤(zbW N g n at0 tb).ct∧(zbW N g n at0 tb).ct≤n)∧(∀x∈(zbW N g n at0 tb).sg,x.ok)∧(zbW N g n at0 tb).sg.length≤64:=by
 obtain ⟨b1,⟨b2,b3,b4⟩,b5,b6⟩:=zj9 hg (N:=N) (n:=n) (tb:=tb) n.toNat at0 0 [] 0 ⟨by decide,by decide⟩ (by decide) fun x hx=>(by cases hx)
 unfold zbW
 simp only
 generalize zbM N g n tb n.toNat at0 0 [] 0=t at b1 b2 b3 b4 b5 b6 ⊢
 intro h
 by_cases h1:t.e≠0
 ·rw [if_pos h1] at h;exact absurd h h1
 ·rw [if_neg h1] at h ⊢
  by_cases h2:n≤t.id
  ·rw [if_pos h2] at h;cases h
  ·rw [if_neg h2] at h ⊢
   by_cases h3:zcU N t.sg≠0
   ·rw [if_pos h3] at h;exact absurd h h3
   ·rw [if_neg h3]
    have hc:=b4 (by simpa using h1)
    refine ⟨⟨b1.1,by omega⟩,⟨by omega,by omega⟩,b5,?_⟩
    have h3:zcU N t.sg=0:=by simpa using h3
    unfold zcU at h3
    split at h3
    ·cases h3
    ·rename_i hh
     exact ze0 (by simpa using fun e=>hh (.inr e))
theorem Tryz.zAU {N:Nat} {g:Nat→Int} {n at0:Int} {tb:Bool}:(zbW N g n at0 tb).e≠0→(zbW N g n at0 tb).id=0∧(zbW N g n at0 tb).ct=0∧(zbW N g n at0 tb).sg= []:=by
 unfold zbW
 simp only
 generalize zbM N g n tb n.toNat at0 0 [] 0=t
 intro h
 split
 ·exact ⟨rfl,rfl,rfl⟩
 ·split
  ·exact ⟨rfl,rfl,rfl⟩
  ·split
   ·exact ⟨rfl,rfl,rfl⟩
   ·rename_i h1 h2 h3
    rw [if_neg h1,if_neg h2,if_neg h3] at h
    exact absurd h h1
def Tryz.pchG (P L Bs B N:Nat) (g:Nat→Int) (b2:Nat) (l:List Sg):Gho where
 fact k q F w:=(F P∧F L∧F Bs∧F B∧GM w P L Bs B N g)∧(match k with|0=>True|1=> ∃u,q 9=some u∧fwOwn b2 u l F w|_=> ∃u u2,q 9=some u∧q 11=some u2∧fwOwn b2 u l F w∧fwOwn b2 u2 l F w)
 loc:=fun k q q' F w w' h hq hb hs=>by
  obtain ⟨⟨h1,h2,h3,h4,h5⟩,h6⟩:=h
  refine ⟨⟨h1,h2,h3,h4,h5.kept (fun b _ hb'=>by rcases hb' with rfl|rfl|rfl|rfl<;>exact hb _ (by assumption)) hs⟩,?_⟩
  match k,h6 with
  | 0,_=>trivial
  | 1,⟨u,h7,h8⟩=>exact ⟨u,hq _ _ h7,fwOwn.kept h8 hb⟩
  | k+2,⟨u,u2,h7,h8,h9,h10⟩=>exact ⟨u,u2,hq _ _ h7,hq _ _ h8,fwOwn.kept h9 hb,fwOwn.kept h10 hb⟩
theorem Tryz.zg7 {P L Bs B N:Nat} {g:Nat→Int} {b2:Nat} {l:List Sg} {bl:List (Nat×Nat)} {w:World} (h:GM w P L Bs B N g) (hn: ∀b,b=P∨b=L∨b=Bs∨b=B→ ¬Mine (jOf bl) b):(pchG P L Bs B N g b2 l).G 0 (jOf bl) w:=
 ⟨fun b=>b=P∨b=L∨b=Bs∨b=B,fun b hb=>⟨by rcases hb with rfl|rfl|rfl|rfl;exact h.pl;exact h.ll;exact h.sl;exact h.bl,hn b hb⟩,⟨.inl rfl,.inr (.inl rfl),.inr (.inr (.inl rfl)),.inr (.inr (.inr rfl)),h⟩,trivial⟩
theorem Tryz.zHm {ρ:Val} {w0:World} {K:Nat→Prop} {P L Bs B N:Nat} {g:Nat→Int} {r:Rg} {at0:Int} {wr tb:Bool} {e:SE} (hN:N≤1048576) (hr:PgOk r) (hfit:4104+16*r.n≤N) (hat:0≤at0∧at0<r.n) (hR: ∀j,Dw.R ρ j prg r.pval) (hp:ρ.v 0=vp P) (d4:(lnv 4).den ρ=at0) (b2:ρ.b 2=wr) (b1:ρ.b 1=tb)
  (d13:(u16v 13).den ρ=(zbW N g r.n at0 tb).id) (d14:(lnv 14).den ρ=(zbW N g r.n at0 tb).ct) (de:e.den ρ=(zbW N g r.n at0 tb).e):
  zaQ prog ρ w0 K (pchG P L Bs B N g w0.heap.size (zbW N g r.n at0 tb).sg) (ppkE e):=by
 refine ⟨Dw.enters_of (by kernel_rfl),fun j w1 vals F n0 hv hn hb hF hsz hf _=> ?_⟩
 have hv:=zcR (show AV.exactL [.cst 0 none,prg,.agg [.int .i64 (lnv 4),.bool (.var 2)],.bool (.var 1)]=true by rfl) hv (zab (za5 (ρ:=ρ) (j:=j) hp rfl) (zab (hR j) (zab (zbg (zab (zac d4) (zab (zap b2) RL.nil))) (zab (zap b1) RL.nil))))
 subst hv
 have hb:n0=9:=hb (by show (1:Nat)≠0;decide)
 subst hb
 obtain ⟨⟨f1,f2,f3,f4,hm⟩,_⟩:=hf
 refine Calls.mono (zyh (wr:=wr) (tb:=tb) hm hN hr hfit hat) fun en w' hh=> ?_
 obtain ⟨u,rfl,hu,hbl⟩:=hh
 have hlt:=hu.lt
 refine ⟨_,[u],fun b=>F b∨u.ownBlock=some b,rfl,rfl,zcC (zab (zbg (zab (zac d13) (zab (zac d14) (zab ⟨⟨⟨0,0,0,some u⟩,?_,rfl⟩,hu.one,fun _ h=>(by cases h)⟩ RL.nil)))) (zab (zac de) RL.nil)),⟨⟨.inl f1,.inl f2,.inl f3,.inl f4,hm.below hbl⟩,u,zbY,hu.mono hsz,fun b hb=> .inr hb⟩,?_,Dw.Mv.of_below hbl⟩
 ·show jq j 9 _ 9=_
  unfold jq
  rw [if_pos ⟨Nat.le_refl _,by simp⟩]
  simp
 ·rintro b (hb|hb)
  ·exact ⟨Nat.lt_of_lt_of_le (hF b hb) hbl.size,.inl hb⟩
  ·exact ⟨(hlt b hb).2.1,.inr (hlt b hb).1⟩
theorem Tryz.zHM {ρ:Val} {w0:World} {K:Nat→Prop} {P L Bs B N:Nat} {g:Nat→Int} {l:List Sg} (hok: ∀y∈l,y.ok) (hl:l.length≤1000000):zaQ prog ρ w0 K (pchG P L Bs B N g w0.heap.size l) pclE:=by
 refine ⟨Dw.enters_of (by kernel_rfl),fun j w1 vals F n hv hnone hb hF hsz hf _=> ?_⟩
 have hb:n=11:=hb (by show (1:Nat)≠0;decide)
 subst hb
 obtain ⟨⟨f1,f2,f3,f4,hm1⟩,u,hq,hu,huF⟩:=hf
 obtain ⟨v2,m2,rfl,⟨⟨Lq,hj,hLq⟩,_⟩,hm2⟩:=hv
 have hm2:m2= []:=hm2
 subst hm2
 have hv2:v2=u:=by
  unfold opqs at hq
  rw [hj] at hq
  simp only [Option.bind_some] at hq
  rw [hLq] at hq
  exact Option.some.inj hq
 subst hv2
 refine Calls.mono (zmt (hu.segV hok (A:=fun _=>False) fun _ _ h=>h) hl) fun en w' hh=> ?_
 obtain ⟨u2,rfl,hu2,hbl⟩:=hh
 have hlt:=hu2.lt
 have hq6:opqs (jq j 11 [u2]) 9=some v2:=by
  unfold opqs at hq ⊢
  have e:jq j 11 [u2] 9=j 9:=by unfold jq;rw [if_neg (by simp)]
  rw [e];exact hq
 refine ⟨_,[u2],fun b=>F b∨u2.ownBlock=some b,rfl,rfl,⟨⟨⟨0,0,0,some u2⟩,?_,rfl⟩,hu2.one,fun _ h=>(by cases h)⟩,⟨⟨.inl f1,.inl f2,.inl f3,.inl f4,hm1.below hbl⟩,v2,u2,hq6,zbY,⟨hu.kept fun b hb=>hbl.block b (hu.lt b hb).2.1,fun b hb=> .inl (huF b hb)⟩,hu2.mono hsz,fun b hb=> .inr hb⟩,?_,Dw.Mv.of_below hbl⟩
 ·show jq j 11 _ 11=_
  unfold jq
  rw [if_pos ⟨Nat.le_refl _,by simp⟩]
  simp
 ·rintro b (hb|hb)
  ·exact ⟨Nat.lt_of_lt_of_le (hF b hb) hbl.size,.inl hb⟩
  ·exact ⟨(hlt b hb).2.1,.inr (hlt b hb).1⟩
set_option maxRecDepth 10000 in
theorem Tryz.zxt {A:Nat→Prop} {w:World} {S P L Bs B M N:Nat} {r:Rg} {s:PS} {g:Nat→Int} (h:PW A w S P L Bs B M N r s g) (hb:s.br=false) (hp:s.ph=6):
  Calls prog 27 #[.pointer (some ⟨S,0,none⟩)] w fun e w'=>e= .returned (.tuple #[(zdJ N r s g 6).1,.int .i64 (zdJ N r s g 6).2.1])∧PW A w' S P L Bs B M N r (zdJ N r s g 6).2.2.1 (zdJ N r s g 6).2.2.2∧Dw.Mv (sK S M B) w w':=by
 obtain ⟨sv,ho,hsv⟩:=h.obj
 have hrg:=h.rg
 have q1:=hrg.bnd
 have hpb:=h.pb
 have hnx:=hpb.nx
 have hou:=hpb.ou
 have hon:=zbh h.tk.rng
 have hN:=h.hN
 have hf:=h.fit
 have hg:=h.mem.byte
 have hj2:jOf [(S,0),(M,0)] 2=some ⟨M,0,0,none⟩:=rfl
 have hj1:jOf [(S,0),(M,0)] 1=some ⟨S,0,0,none⟩:=rfl
 have hAb: ∀b,w.heap.size≤b→ ¬A b:=fun b hb ha=>by have:=h.lt b ha;omega
 have hok:=zD3 (N:=N) hg (n:=r.n) (at0:=s.nx) (tb:=s.tb) q1.1
 have herr:=zAU (N:=N) (g:=g) (n:=r.n) (at0:=s.nx) (tb:=s.tb)
 have hPk: ∀ {ρ:Val} {K:Nat→Prop} {e:SE},PDen ρ r s (.pointer (some ⟨P,0,none⟩)) sv→(u16v 13).den ρ=(zbW N g r.n s.nx s.tb).id→(lnv 14).den ρ=(zbW N g r.n s.nx s.tb).ct→e.den ρ=(zbW N g r.n s.nx s.tb).e→zaQ prog ρ w K (pchG P L Bs B N g w.heap.size (zbW N g r.n s.nx s.tb).sg) (ppkE e):=fun {ρ K e} hd d13 d14 de=>
  zHm hN hrg hf hnx (fun j=>zbg (zab (zap rfl) (zab (zac hd.n) (zab (zac hd.d) (zab (zac hd.v) (zab (zac hd.c) RL.nil)))))) hd.p hd.nx hd.b2 hd.b1 d13 d14 de
 have hbd:0≤(zbW N g r.n s.nx s.tb).id∧(zbW N g r.n s.nx s.tb).id<65536∧0≤(zbW N g r.n s.nx s.tb).ct∧(zbW N g r.n s.nx s.tb).ct≤r.n:=by
  by_cases he:(zbW N g r.n s.nx s.tb).e=0
  ·obtain ⟨q,q',_⟩:=hok he;omega
  ·obtain ⟨q,q',_⟩:=herr he;omega
 unfold zdJ
 simp only
 generalize zbW N g r.n s.nx s.tb=t at hok herr hPk hbd ⊢
 have fail: ∀ {ρ:Val} {e:Ending} {w':World} {j:J} {ls:Leaf},PDen ρ r s (.pointer (some ⟨P,0,none⟩)) sv→zod ρ w (sK S M B) (pchG P L Bs B N g w.heap.size t.sg) [(S,0),(M,0)] ls e w' j→
   ls=⟨.tup [.agg [.int .i64 (.lit 1),.int .i64 (.lit 0),.int .i64 (.lit 0)],.int .i64 (.lit 4)],[(1,[.cst 0 none,.bool (.lit true),.int .i64 (szv 0),.int .u64 (u64v 1),.int .u64 (u64v 2),.int .u64 (u64v 3),.bool (.var 0),.bool (.var 1),.bool (.lit true),.int .i64 (lnv 4),.bool (.var 2),.int .i64 (lnv 5),.bool (.var 6),.map 2,.int .i64 (lnv 9),.int .i64 (.lit 0),.int .i64 (.lit 0),.bool (.lit false),.int .i64 (.lit 0),.nils,.int .u32 (.lit 0),.bool (.lit false),.bool (.var 5),.bool (.lit true)])],[(2,[])],1,[1]⟩→
   e= .returned (.tuple #[.agg #[.int .i64 1,.int .i64 0,.int .i64 0],.int .i64 4])∧PW A w' S P L Bs B M N r s.brk g∧Dw.Mv (sK S M B) w w':=fun {ρ e w' j ls} hd he hls=>by
  subst hls
  have hj1':=he.sub _ _ hj1
  have hj2':=he.sub _ _ hj2
  have lc1:=zag hj1'
  have lc2:=zag hj2'
  have hmv:=he.mv
  have hkA:=h.kA hmv
  obtain ⟨Fs,_,⟨_,_,_,_,hgm⟩,_⟩:=he.gho
  have hO:=(he.rows.1 _ hj1').2 (.inr (.inl rfl)) rfl
  have hM:=he.maps.1 _ hj2'
  simp only [AV.val,AV.valL,lc1,lc2,hd.n,hd.d,hd.v,hd.c,hd.nx,hd.us,hd.hd,hd.wr,hd.ou,hd.p,hd.sv,zaM,zad,zaA,zbN,hd.op,hd.b0,hd.b1,hd.b2,hd.b3,hd.b4,hd.b5,hd.b6] at hO
  exact ⟨he.ret,h.next hmv hgm ⟨_,hO,SegV.none⟩ (h.tk.same hkA hM) ⟨h.pb.nx,h.pb.us,h.pb.ou,z16,z32,by show 0≤11;decide,fun h7=>absurd h7 (by show¬7≤0;decide)⟩,hmv⟩
 by_cases hE:t.e=0
 ·obtain ⟨hid,hct,hsg,hsl⟩:=hok hE
  cases htk:zbk t.id s.tk with
  | some t0=>
   rw [if_pos (.inr (.inl (by simp)))]
   have htr:1≤t0.ct∧t0.ct≤r.n:=(h.tk.rng _ (zcG htk)).2
   obtain ⟨v2,hv2,hv2s⟩: ∃v2,(∀arr clock,w.heap[M]? =some (.map arr clock)→zbm arr t.id=some (.agg #[.int .i64 t.id,.int .i64 t0.ct,v2]))∧v2.oneCell'=true:=by
    obtain ⟨arr1,clock1,g1,g2,g3⟩:=h.tk.map
    obtain ⟨v0,h1,h2⟩:=(g3 t.id).2 t0 htk
    exact ⟨v0,fun arr clock hm=>by rw [g1] at hm;cases hm;exact h1,h2.one⟩
   have hd:=zbf hrg hpb (by rw [hou.1];exact hon) [0,0,0,t.id,t.ct,0,0,t.e,0,t0.ct] [] (.pointer (some ⟨P,0,none⟩)) sv v2
   have d13:(u16v 13).den (prho r s [0,0,0,t.id,t.ct,0,0,t.e,0,t0.ct] [] (.pointer (some ⟨P,0,none⟩)) sv v2)=t.id:=zbD hid.1 (by show t.id<_;omega)
   have d14:(lnv 14).den (prho r s [0,0,0,t.id,t.ct,0,0,t.e,0,t0.ct] [] (.pointer (some ⟨P,0,none⟩)) sv v2)=t.ct:=zat (by show 0≤t.ct;omega) (by show t.ct<_;omega)
   have d19:(lnv 19).den (prho r s [0,0,0,t.id,t.ct,0,0,t.e,0,t0.ct] [] (.pointer (some ⟨P,0,none⟩)) sv v2)=t0.ct:=zat (by show 0≤t0.ct;omega) (by show t0.ct<_;omega)
   have dv2:(prho r s [0,0,0,t.id,t.ct,0,0,t.e,0,t0.ct] [] (.pointer (some ⟨P,0,none⟩)) sv v2).v 2=v2:=rfl
   generalize prho r s [0,0,0,t.id,t.ct,0,0,t.e,0,t0.ct] [] (.pointer (some ⟨P,0,none⟩)) sv v2=ρ at hd d13 d14 d19 dv2
   refine Calls.mono (zaD (ρ:=ρ) (K:=sK S M B) (g:=pchG P L Bs B N g w.heap.size t.sg) (bl:= [(S,0),(M,0)]) (vals:= [.pointer (some ⟨S,0,none⟩)]) mixed zsX zxv h.kold
    ⟨za6 ho (zcd hd hb (by rw [hp];rfl) hsv.one hj2) (.inl rfl),ze9 h.tk (.inr (.inl rfl)) d13 (o:=some (.agg [.int .i64 (u16v 13),.int .i64 (lnv 19),.cst 2 none])) (ov:=some (.agg #[.int .i64 t.id,.int .i64 t0.ct,v2])) ⟨_,rfl,zbg (zab (zac d13) (zab (zac d19) (zab (za5 dv2 hv2s) RL.nil)))⟩ hv2,trivial⟩ h.apart (zg7 h.mem h.mine)
    ⟨hPk hd d13 d14 (by rw [hE];rfl),trivial⟩ (zab (zcj hj1) RL.nil) (zae.2 trivial)) fun e w' hh=> ?_
   obtain ⟨_,j,he⟩:=zcr hh
   exact fail hd he rfl
  | none=>
   have hv0: ∀arr clock,w.heap[M]? =some (.map arr clock)→zbm arr t.id=none:=fun arr clock hm=>by
    obtain ⟨arr1,clock1,g1,g2,g3⟩:=h.tk.map
    rw [g1] at hm;cases hm
    exact (g3 t.id).1 htk
   obtain ⟨u,huu⟩: ∃u,u=zaL r.n s.nx s.nw t.ct:=⟨_,rfl⟩
   rw [←huu]
   have hu:=zgm (n:=r.n) (a:=s.nx) (c:=t.ct) (x:=s.nw) hnx ⟨by omega,hct.2⟩
   rw [←huu] at hu
   obtain ⟨u1,u2⟩:=u
   simp only at hu ⊢
   have hd:=zbf hrg hpb (by rw [hou.1];exact hon) [0,0,0,t.id,t.ct,u1,0,t.e] [false,u2] (.pointer (some ⟨P,0,none⟩)) sv undef
   have d13:(u16v 13).den (prho r s [0,0,0,t.id,t.ct,u1,0,t.e] [false,u2] (.pointer (some ⟨P,0,none⟩)) sv undef)=t.id:=zbD hid.1 (by show t.id<_;omega)
   have d14:(lnv 14).den (prho r s [0,0,0,t.id,t.ct,u1,0,t.e] [false,u2] (.pointer (some ⟨P,0,none⟩)) sv undef)=t.ct:=zat (by show 0≤t.ct;omega) (by show t.ct<_;omega)
   have d15:(lnv 15).den (prho r s [0,0,0,t.id,t.ct,u1,0,t.e] [false,u2] (.pointer (some ⟨P,0,none⟩)) sv undef)=u1:=zat hu.1 (by show u1<_;omega)
   have b8:(prho r s [0,0,0,t.id,t.ct,u1,0,t.e] [false,u2] (.pointer (some ⟨P,0,none⟩)) sv undef).b 8=u2:=rfl
   generalize prho r s [0,0,0,t.id,t.ct,u1,0,t.e] [false,u2] (.pointer (some ⟨P,0,none⟩)) sv undef=ρ at hd d13 d14 d15 b8
   have w1:IntKind.wrap .i64 (t.ct+s.ou)=t.ct+s.ou:=zbL (by omega) (by omega)
   have w2:IntKind.wrap .i64 (s.ou+t.ct)=s.ou+t.ct:=zbL (by omega) (by omega)
   refine Calls.mono (zaD (ρ:=ρ) (K:=sK S M B) (g:=pchG P L Bs B N g w.heap.size t.sg) (bl:= [(S,0),(M,0)]) (vals:= [.pointer (some ⟨S,0,none⟩)]) mixed zxr zAR h.kold
    ⟨za6 ho (zcd hd hb (by rw [hp];rfl) hsv.one hj2) (.inl rfl),ze9 h.tk (.inr (.inl rfl)) d13 (o:=none) (ov:=none) rfl hv0,trivial⟩ h.apart (zg7 h.mem h.mine)
    ⟨hPk hd d13 d14 (by rw [hE];rfl),zHM hsg (by omega),zaw (Dw.enters_of (by kernel_rfl)) (by rfl) [posV s.nx s.nw,.int .i64 t.ct,.int .i64 r.n] (.tuple #[posV u1 u2,.int .i64 0]) (fun j=>zab (zbg (zab (zac hd.nx) (zab (zap hd.b2) RL.nil))) (zab (zac d14) (zab (zac hd.n) RL.nil))) (fun j=>zcC (zab (zbg (zab (zac d15) (zab (zap b8) RL.nil))) (zab (zac rfl) RL.nil))) (fun w F q hf=>by have:=zmK (n:=r.n) (a:=s.nx) (c:=t.ct) (x:=s.nw) ⟨q1.1,by omega⟩ hnx ⟨by omega,hct.2⟩ w;rw [←huu] at this;exact this),trivial⟩
    (zab (zcj hj1) RL.nil) (zae.2 trivial)) fun e w' hh=> ?_
   obtain ⟨p,hpm,hto,l,hl,j,he⟩:=hh
   unfold zqC at hpm
   simp only [List.mem_cons,List.not_mem_nil,or_false] at hpm
   rcases hpm with rfl|rfl
   all_goals
    simp only [zaa,zae,zbC,den_add,hd.n,hd.ou,d14,w1,decide_eq_true_eq,decide_eq_false_iff_not,and_true] at hto
    cases hl
   ·rw [if_pos (.inr (.inr (by omega)))]
    exact fail hd he rfl
   ·rw [if_neg (by rintro (h1|h1|h1);exact h1 hE;exact h1 rfl;omega)]
    have hj1':=he.sub _ _ hj1
    have hj2':=he.sub _ _ hj2
    have lc1:=zag hj1'
    have lc2:=zag hj2'
    have hmv:=he.mv
    have hkA:=h.kA hmv
    obtain ⟨Fs,_,⟨_,_,_,_,hgm⟩,v9,v11,hq9,hq11,⟨hu9,_⟩,hu11,_⟩:=he.gho
    have e9:(lcOf j 9).q.getD undef=v9:=zcN (ρ:=ρ) hq9
    have e11:(lcOf j 11).q.getD undef=v11:=zcN (ρ:=ρ) hq11
    have hO:=(he.rows.1 _ hj1').2 (.inr (.inl rfl)) rfl
    have hM:=he.maps.1 _ hj2'
    simp only [AV.val,AV.valL,lc1,lc2,hd.n,hd.d,hd.v,hd.c,hd.nx,hd.us,hd.hd,hd.wr,hd.ou,hd.p,hd.sv,den_add,zaM,zad,zaA,zbN,hd.op,hd.b0,hd.b1,hd.b2,hd.b3,hd.b4,hd.b5,hd.b6,d13,d14,d15,b8,e11,w2] at hO
    refine ⟨he.ret,h.next hmv hgm ⟨_,hO,hu11.segV hsg hAb⟩ (h.tk.put hkA htk ⟨hid,hct⟩ (t:=⟨t.ct,t.sg⟩) (hu9.segV hsg hAb) ?_) ⟨hu,h.pb.us,⟨?_,by show s.ou+t.ct≤r.n;omega⟩,⟨hid.1,by show t.id<65536;omega⟩,h.pb.wr,by show 0≤11;decide,fun h7=>absurd h7 (by show¬7≤0;decide)⟩,hmv⟩
    ·obtain ⟨arr,clock,arr0,clock0,m1,m2,m3,m4⟩:=hM
     refine ⟨arr,clock,arr0,clock0,m1,m2,m3,fun k=> ?_⟩
     rw [m4 k]
     simp only [zgB,AV.val,AV.valL,d13,d14,Dw.intOf,Option.map_some,mlog,e9]
    ·show s.ou+t.ct=zcc (s.tk++ [(t.id,⟨t.ct,t.sg⟩)])
     rw [zlP,hou.1]
 ·rw [if_pos (.inl hE)]
  have hd:=zbf hrg hpb (by rw [hou.1];exact hon) [0,0,0,t.id,t.ct,0,0,t.e] [] (.pointer (some ⟨P,0,none⟩)) sv undef
  have d13:(u16v 13).den (prho r s [0,0,0,t.id,t.ct,0,0,t.e] [] (.pointer (some ⟨P,0,none⟩)) sv undef)=t.id:=zbD hbd.1 hbd.2.1
  have d14:(lnv 14).den (prho r s [0,0,0,t.id,t.ct,0,0,t.e] [] (.pointer (some ⟨P,0,none⟩)) sv undef)=t.ct:=zat hbd.2.2.1 (by show t.ct<_;omega)
  have d17:SE.den (prho r s [0,0,0,t.id,t.ct,0,0,t.e] [] (.pointer (some ⟨P,0,none⟩)) sv undef) (.var 17)=t.e:=rfl
  generalize prho r s [0,0,0,t.id,t.ct,0,0,t.e] [] (.pointer (some ⟨P,0,none⟩)) sv undef=ρ at hd d13 d14 d17
  refine Calls.mono (zaD (ρ:=ρ) (K:=sK S M B) (g:=pchG P L Bs B N g w.heap.size t.sg) (bl:= [(S,0),(M,0)]) (vals:= [.pointer (some ⟨S,0,none⟩)]) mixed zsZ zxx h.kold
   ⟨za6 ho (zcd hd hb (by rw [hp];rfl) hsv.one hj2) (.inl rfl),zco h.tk (.inr (.inl rfl)),trivial⟩ h.apart (zg7 h.mem h.mine)
   ⟨hPk hd d13 d14 d17,trivial⟩ (zab (zcj hj1) RL.nil) (zaa.2 ⟨by rw [zcL,d17,zad];simpa using hE,zae.2 trivial⟩)) fun e w' hh=> ?_
  obtain ⟨_,j,he⟩:=zcr hh
  exact fail hd he rfl
end Go.Proofs
namespace Go.Proofs
open Go.Dw Go.RowKit
def Tryz.zj2:List AV:= [.int .u8 (.lit 0),.int .u8 (.lit 0),.int .u8 (.lit 0),.int .u8 (.lit 0),.int .u8 (.lit 0),.int .u8 (.lit 0),.int .u8 (.lit 0),.int .u8 (.lit 0),.int .u8 (.flds [⟨8,0,4294967295,0,8,0⟩] 0),.int .u8 (.flds [⟨8,0,4294967295,8,8,0⟩] 0),.int .u8 (.flds [⟨8,0,4294967295,16,8,0⟩] 0),.int .u8 (.flds [⟨8,0,4294967295,24,8,0⟩] 0),.int .u8 (.flds [⟨7,0,65535,0,8,0⟩] 0),.int .u8 (.flds [⟨7,0,65535,8,8,0⟩] 0),.int .u8 (.lit 0),.int .u8 (.lit 0)]
def Tryz.pelW:EntW:=⟨⟨39,[.cst 0 none,.int .u64 (dplc 5 8),.sl 8 8 6 (.known 8)],0,0,0,.int .i64 (.lit 0),1⟩,[(8,zj2,zj2)]⟩
end Go.Proofs
namespace Go.Proofs
open Go.Dw
def Tryz.zgs:List Ent:= []
def Tryz.zfx:List EntW:= [pelW]
def Tryz.zhS:List Sh:=pshs 7
def Tryz.zgt:List AV:= [.ptr 1 0]
def Tryz.zfy:List LEnt:= []
def Tryz.zfz:List AEnt:= []
def Tryz.zqy:List (SB×Bool):= []
def Tryz.zj1:List Leaf:= [
 ⟨.tup [.agg [.int .i64 (.lit 3),.int .i64 (.lit 1),.int .i64 (lnv 5)],.int .i64 (.lit 0)],[(1,[.cst 0 none,.bool (.lit true),.int .i64 (szv 0),.int .u64 (u64v 1),.int .u64 (u64v 2),.int .u64 (u64v 3),.bool (.var 0),.bool (.var 1),.bool (.lit true),.int .i64 (lnv 4),.bool (.var 2),.int .i64 (lnv 5),.bool (.var 6),.map 2,.int .i64 (lnv 9),.int .i64 (.lit 8),.int .i64 (.var 6),.bool (.var 3),.int .i64 (u16v 7),.cst 1 none,.int .u32 (u32v 8),.bool (.var 4),.bool (.lit false),.bool (.lit false)])],[(2,[])],1,[1]⟩]
def Tryz.zsU:List (List (SB×Bool)×Nat):= [
 ([], 0)]
theorem Tryz.zqx:(evL prog (zkA zgs zfx) (zaF zfy) (zaE zfz) 100000 (.call 27 zgt (zas 0 zhS) (zaR zj1 0))).ways zqy=some zsU:=by kernel_rfl
theorem Tryz.zsV:(zai zhS&&zaf zgs&&zdB zfx&&zam zfy&&zan zfz&&AV.smallL zgt&&zal zj1)=true:=by kernel_rfl
open Go.RowKit
def Tryz.elB (wr hd:Int):List Int:= [wr/(2^0:Nat)%(2^8:Nat)*(2^0:Nat),wr/(2^8:Nat)%(2^8:Nat)*(2^0:Nat),wr/(2^16:Nat)%(2^8:Nat)*(2^0:Nat),wr/(2^24:Nat)%(2^8:Nat)*(2^0:Nat),hd/(2^0:Nat)%(2^8:Nat)*(2^0:Nat),hd/(2^8:Nat)%(2^8:Nat)*(2^0:Nat)]
theorem Tryz.zHd (g:Nat→Int) (a:Nat) (wr hd:Int):putL g a (elB wr hd)=putW (putW g a 4 wr) (a+4) 2 hd:=by
 funext j
 rw [znl]
 unfold putW
 have hl:(elB wr hd).length=6:=rfl
 rw [hl]
 by_cases h:a≤j∧j<a+6
 ·rw [if_pos h]
  obtain ⟨k,hk⟩: ∃k,k=j-a:=⟨_,rfl⟩
  have hj:j=a+k:=by omega
  subst hj
  rw [show a+k-a=k by omega]
  have h6:k<6:=by omega
  match k,h6 with
  | 0,_=>rw [if_neg (by omega),if_pos (by omega)];simp [elB]
  | 1,_=>rw [if_neg (by omega),if_pos (by omega)];simp [elB]
  | 2,_=>rw [if_neg (by omega),if_pos (by omega)];simp [elB]
  | 3,_=>rw [if_neg (by omega),if_pos (by omega)];simp [elB]
  | 4,_=>rw [if_pos (by omega)];simp [elB]
  | 5,_=>rw [if_pos (by omega)];simp [elB]
 ·rw [if_neg h,if_neg (by omega),if_neg (by omega)]
theorem Tryz.zEp (wr hd:Int): ∀x∈elB wr hd,0≤x∧x<256:=by
 intro x hx
 unfold elB at hx
 simp only [List.mem_cons,List.not_mem_nil,or_false] at hx
 rcases hx with rfl|rfl|rfl|rfl|rfl|rfl<;>simp<;>omega
theorem Tryz.zJ2 {ρ:Val} {w0:World} {K:Nat→Prop} {P L Bs B N:Nat} {g:Nat→Int} {us wr hd:Int} (hN:N≤1048576) (hp:ρ.v 0= .pointer (some ⟨P,0,none⟩)) (ha:(dplc 5 8).den ρ=4096+16*us+8) (hu:0≤us) (hin:4096+16*us+16≤N)
  (h8:ρ.i 8=wr) (hw:0≤wr∧wr<4294967296) (h7:ρ.i 7=hd) (hh:0≤hd∧hd<65536) (hK:K B):
  zKi prog ρ w0 K (memG P L Bs B N [g,putW (putW g (4096+16*us+8).toNat 4 wr) (4096+16*us+12).toNat 2 hd]) pelW:=by
 refine ⟨Dw.enters_of (by kernel_rfl),fun j w1 vals F n hv hnone hb hF hsz hrows hne hf=> ?_⟩
 obtain ⟨L1,vs1,j1,o1,K1,F1,r1,w1'⟩:=hrows (8,zj2,zj2) (List.mem_cons_self ..)
 have j1:j 8=some L1:=j1
 have lc1:=zag j1
 have hw8:=fun (fr:Nat)=>zbi (ρ:=ρ) (i:=8) (lo:=0) (hi:=4294967295) (fr:=fr) (n:=8) (sh:=0) (by rw [h8];exact hw.1) (by rw [h8];show wr≤4294967295;omega)
 have hw7:=fun (fr:Nat)=>zbi (ρ:=ρ) (i:=7) (lo:=0) (hi:=65535) (fr:=fr) (n:=8) (sh:=0) (by rw [h7];exact hh.1) (by rw [h7];show hd≤65535;omega)
 have w2':=zD4 w1' (by kernel_rfl) r1
 simp only [zj2,AV.valL,AV.val,zad,hw8,hw7,h8,h7] at w2'
 have hv:=zcR (show AV.exactL [.cst 0 none,.int .u64 (dplc 5 8),.sl 8 8 6 (.known 8)]=true by rfl) hv (zab (za5 (ρ:=ρ) (j:=j) hp rfl) (zab (zac ha) (zab (show Dw.R ρ j (.sl 8 8 6 (.known 8)) (.slice (some ⟨L1.blk,8,none⟩) 6 8) from ⟨L1,j1,(by show 6≤8;decide),by rw [o1];rfl⟩) RL.nil)))
 subst hv
 obtain ⟨f1,f2,f3,f4,g',hg,hm⟩:=hf
 cases hg
 have e1:(4096+16*us+8:Int)=(((4096+16*us+8).toNat:Nat):Int):=by omega
 have e2:(4096+16*us+12).toNat=(4096+16*us+8).toNat+4:=by omega
 have hL:=World.block_lt_of_cell? w1 _ (zbc w2' (i:=0) rfl)
 have hR:w1.rangeAt L1.blk 8 ((elB wr hd).map (Value.int .u8)):=fun k v hk=>zbc w2' (by
  unfold elB at hk
  have hk6:k<6:=(List.getElem?_eq_some_iff.1 hk).1
  match k,hk6,hk with
  | 0,_,hk=>exact hk
  | 1,_,hk=>exact hk
  | 2,_,hk=>exact hk
  | 3,_,hk=>exact hk
  | 4,_,hk=>exact hk
  | 5,_,hk=>exact hk)
 have hc:=ztL P L Bs B N (4096+16*us+8).toNat L1.blk 8 8 (elB wr hd) g w1 hm hN (by show 1≤6;decide) (by show _+6≤N;omega) (zEp wr hd) hR hL
 rw [←e1] at hc
 refine Calls.mono hc fun en w' hh=> ?_
 obtain ⟨rfl,hm',hmv⟩:=hh
 have hLB:L1.blk≠B:=fun e=>F1 (e▸f4)
 refine ⟨_,[],F,rfl,rfl,zac rfl,⟨f1,f2,f3,f4,_,rfl,?_⟩,fun b hb=>⟨Nat.lt_of_lt_of_le (hF b hb) hmv.size,.inl hb⟩,?_,?_⟩
 ·rw [e2,←zHd];exact hm'
 ·intro r hr L2 hj2
  have hr:=List.mem_singleton.1 (show r∈ [(8,zj2,zj2)] from hr)
  subst hr
  have hj2:j 8=some L2:=hj2
  rw [j1] at hj2
  cases hj2
  exact ⟨vs1,r1,w1'.kept (hmv.block _ hL hLB)⟩
 ·exact ⟨hmv.os,hmv.tape,hmv.output,hmv.size,fun k hk hn=>hmv.block k hk fun e=>hn (.inl ⟨e▸f4,.inr (e▸hK)⟩)⟩
theorem Tryz.zqz {A:Nat→Prop} {w:World} {S P L Bs B M N:Nat} {r:Rg} {s:PS} {g:Nat→Int} (h:PW A w S P L Bs B M N r s g) (hb:s.br=false) (hp:s.ph=7):
  Calls prog 27 #[.pointer (some ⟨S,0,none⟩)] w fun e w'=>e= .returned (.tuple #[.agg #[.int .i64 3,.int .i64 1,.int .i64 s.us],.int .i64 0])∧PW A w' S P L Bs B M N r (s.goto 8) (putW (putW g (4096+16*s.us+8).toNat 4 s.wr) (4096+16*s.us+12).toNat 2 s.hd)∧Dw.Mv (sK S M B) w w':=by
 obtain ⟨sv,ho,hsv⟩:=h.obj
 have hrg:=h.rg
 have q1:=hrg.bnd
 have q2:=hrg.d
 have q3:=hrg.v
 have q4:=hrg.c
 have hpb:=h.pb
 have hnx:=hpb.nx
 have hus:=hpb.us
 have hou:=hpb.ou
 have hon:=zbh h.tk.rng
 have hN:=h.hN
 have hf:=h.fit
 have hd:=zbf hrg hpb (by rw [hou.1];exact hon) [] [] (.pointer (some ⟨P,0,none⟩)) sv undef
 have i8:(prho r s [] [] (.pointer (some ⟨P,0,none⟩)) sv undef).i 8=s.wr:=rfl
 have i7:(prho r s [] [] (.pointer (some ⟨P,0,none⟩)) sv undef).i 7=s.hd:=rfl
 generalize prho r s [] [] (.pointer (some ⟨P,0,none⟩)) sv undef=ρ at hd i8 i7
 have hj2:jOf [(S,0),(M,0)] 2=some ⟨M,0,0,none⟩:=rfl
 have hj1:jOf [(S,0),(M,0)] 1=some ⟨S,0,0,none⟩:=rfl
 have hd4:=hd.d.trans q2
 refine Calls.mono (zxD (ρ:=ρ) (K:=sK S M B) (g:=(memG P L Bs B N [g,putW (putW g (4096+16*s.us+8).toNat 4 s.wr) (4096+16*s.us+12).toNat 2 s.hd])) (bl:= [(S,0),(M,0)]) (vals:= [.pointer (some ⟨S,0,none⟩)]) mixed zqx zsV h.kold
  ⟨za6 ho (zcd hd hb (by rw [hp];rfl) hsv.one hj2) (.inl rfl),zco h.tk (.inr (.inl rfl)),trivial⟩ h.apart (za7 h.mem h.mine) trivial
  ⟨zJ2 hN hd.p (zgR hd4 hd.us ⟨hus.1,by omega⟩ ⟨by decide,by decide⟩) hus.1 (by omega) i8 hpb.wr i7 hpb.hd (.inr (.inr rfl)),trivial⟩ trivial trivial (zab (zcj hj1) RL.nil) (zae.2 trivial)) fun e w' hh=> ?_
 obtain ⟨_,j,he⟩:=zcr hh
 have hj1':=he.sub _ _ hj1
 have hj2':=he.sub _ _ hj2
 have lc1:=zag hj1'
 have lc2:=zag hj2'
 have hmv:=he.mv
 have hkA:=h.kA hmv
 obtain ⟨g',hg0,hgm⟩:=zbZ he.gho
 cases hg0
 have hO:=(he.rows.1 _ hj1').2 (.inr (.inl rfl)) rfl
 have hM:=he.maps.1 _ hj2'
 simp only [AV.val,AV.valL,lc1,lc2,hd.n,hd.d,hd.v,hd.c,hd.nx,hd.us,hd.hd,hd.wr,hd.ou,hd.p,hd.sv,zaM,zad,zaA,zbN,hd.op,hd.b0,hd.b1,hd.b2,hd.b3,hd.b4,hd.b5,hd.b6] at hO
 have hR:=he.ret
 simp only [AV.val,AV.valL,zad,hd.nx,hd.us] at hR
 exact ⟨hR,h.next hmv hgm ⟨_,hO,hsv.kept hkA⟩ (h.tk.same hkA hM) ⟨h.pb.nx,h.pb.us,h.pb.ou,h.pb.hd,h.pb.wr,by show 8≤11;decide,fun _=>h.pb.ret (by omega)⟩,hmv⟩
def Tryz.zJv (ph:SE) (br:SB):List AV:=
  [.cst 0 none,.bool (.lit true),.int .i64 (szv 0),.int .u64 (u64v 1),.int .u64 (u64v 2),.int .u64 (u64v 3),.bool (.var 0),.bool (.var 1),.bool (.lit true),.int .i64 (lnv 4),.bool (.var 2),.int .i64 (lnv 5),.bool (.var 6),.map 2,.int .i64 (lnv 9),.int .i64 ph,
   .int .i64 (.var 6),.bool (.var 3),.int .i64 (u16v 7),.cst 1 none,.int .u32 (u32v 8),.bool (.var 4),.bool (.var 5),.bool br]
def Tryz.ptkV:AV:= .agg [.int .i64 (.var 20),.int .i64 (lnv 19),.cst 2 none]
def Tryz.zKn:Ent:=⟨58,[.cst 2 none],0,0,0,.tup [.int .u64 (u64v 22),.int .u64 (u64v 23)],0⟩
end Go.Proofs
namespace Go.Proofs
open Go.Dw
def Tryz.zjn:List Ent:= []
def Tryz.zlS:List Sh:= [.own (zJv (.var 20) (.lit true)),.mapx []]
def Tryz.zjo:List AV:= [.ptr 1 0]
def Tryz.zw9:List (SB×Bool):= []
def Tryz.zpz:List Leaf:= [
 ⟨.tup [.agg [.int .i64 (.lit 0),.int .i64 (.lit 0),.int .i64 (.lit 0)],.int .i64 (.lit 4)],[(1,[.cst 0 none,.bool (.lit true),.int .i64 (szv 0),.int .u64 (u64v 1),.int .u64 (u64v 2),.int .u64 (u64v 3),.bool (.var 0),.bool (.var 1),.bool (.lit true),.int .i64 (lnv 4),.bool (.var 2),.int .i64 (lnv 5),.bool (.var 6),.map 2,.int .i64 (lnv 9),.int .i64 (.var 20),.int .i64 (.var 6),.bool (.var 3),.int .i64 (u16v 7),.cst 1 none,.int .u32 (u32v 8),.bool (.var 4),.bool (.var 5),.bool (.lit true)])],[(2,[])],0,[1]⟩]
def Tryz.zzO:List (List (SB×Bool)×Nat):= [
 ([], 0)]
theorem Tryz.zw8:(ev prog (zau zjn) 100000 (.call 27 zjo (zas 0 zlS) (zaR zpz 0))).ways zw9=some zzO:=by kernel_rfl
theorem Tryz.zzP:(zai zlS&&zaf zjn&&AV.smallL zjo&&zal zpz)=true:=by kernel_rfl
def Tryz.zjl:List Ent:= []
def Tryz.zlR:List Sh:=pshs 0
def Tryz.zjm:List AV:= [.ptr 1 0]
def Tryz.zw7:List (SB×Bool):= []
def Tryz.zpy:List Leaf:= [
 ⟨.tup [.agg [.int .i64 (.lit 0),.int .i64 (.lit 0),.int .i64 (.lit 0)],.int .i64 (.lit 8)],[(1,[.cst 0 none,.bool (.lit true),.int .i64 (szv 0),.int .u64 (u64v 1),.int .u64 (u64v 2),.int .u64 (u64v 3),.bool (.var 0),.bool (.var 1),.bool (.lit true),.int .i64 (lnv 4),.bool (.var 2),.int .i64 (lnv 5),.bool (.var 6),.map 2,.int .i64 (lnv 9),.int .i64 (.lit 0),.int .i64 (.var 6),.bool (.var 3),.int .i64 (u16v 7),.cst 1 none,.int .u32 (u32v 8),.bool (.var 4),.bool (.var 5),.bool (.lit false)])],[(2,[])],0,[1]⟩]
def Tryz.zzM:List (List (SB×Bool)×Nat):= [
 ([], 0)]
theorem Tryz.zw6:(ev prog (zau zjl) 100000 (.call 27 zjm (zas 0 zlR) (zaR zpy 0))).ways zw7=some zzM:=by kernel_rfl
theorem Tryz.zzN:(zai zlR&&zaf zjl&&AV.smallL zjm&&zal zpy)=true:=by kernel_rfl
def Tryz.zjp:List Ent:= []
def Tryz.zlY:List Sh:=pshs 0
def Tryz.zjq:List AV:= [.ptr 1 0]
def Tryz.zxd:List (SB×Bool):= []
def Tryz.zpJ:List Leaf:= [
 ⟨.int .i64 (.lit 0),[(1,[.cst 0 none,.bool (.lit true),.int .i64 (szv 0),.int .u64 (u64v 1),.int .u64 (u64v 2),.int .u64 (u64v 3),.bool (.var 0),.bool (.var 1),.bool (.lit true),.int .i64 (lnv 4),.bool (.var 2),.int .i64 (lnv 5),.bool (.var 6),.map 2,.int .i64 (lnv 9),.int .i64 (.lit 1),.int .i64 (.lit 3),.bool (.lit false),.int .i64 (.lit 0),.nils,.int .u32 (.lit 0),.bool (.lit false),.bool (.lit false),.bool (.lit false)])],[(2,[])],0,[1]⟩]
def Tryz.zzZ:List (List (SB×Bool)×Nat):= [
 ([], 0)]
theorem Tryz.zxc:(ev prog (zau zjp) 100000 (.call 12 zjq (zas 0 zlY) (zaR zpJ 0))).ways zxd=some zzZ:=by kernel_rfl
theorem Tryz.zz0:(zai zlY&&zaf zjp&&AV.smallL zjq&&zal zpJ)=true:=by kernel_rfl
def Tryz.zlW:List Ent:= []
def Tryz.zpD:List Sh:=zpB 0 (.int .i64 (.var 20)) none
def Tryz.zlX:List AV:= [.ptr 1 0,.int .i64 (.var 20),.int .u32 (u32v 21)]
def Tryz.zzW:List (SB×Bool):= []
def Tryz.zuO:List Leaf:= [
 ⟨.int .i64 (.lit 6),[(1,[.cst 0 none,.bool (.lit true),.int .i64 (szv 0),.int .u64 (u64v 1),.int .u64 (u64v 2),.int .u64 (u64v 3),.bool (.var 0),.bool (.var 1),.bool (.lit true),.int .i64 (lnv 4),.bool (.var 2),.int .i64 (lnv 5),.bool (.var 6),.map 2,.int .i64 (lnv 9),.int .i64 (.lit 0),.int .i64 (.var 6),.bool (.var 3),.int .i64 (u16v 7),.cst 1 none,.int .u32 (u32v 8),.bool (.var 4),.bool (.var 5),.bool (.lit false)])],[(2,[])],0,[1]⟩]
def Tryz.zDx:List (List (SB×Bool)×Nat):= [
 ([], 0)]
theorem Tryz.zzV:(ev prog (zau zlW) 100000 (.call 16 zlX (zas 0 zpD) (zaR zuO 0))).ways zzW=some zDx:=by kernel_rfl
theorem Tryz.zDy:(zai zpD&&zaf zlW&&AV.smallL zlX&&zal zuO)=true:=by kernel_rfl
def Tryz.zlU:List Ent:= [zKn]
def Tryz.zpC:List Sh:=zpB 0 (.int .i64 (.var 20)) (some ptkV)
def Tryz.zlV:List AV:= [.ptr 1 0,.int .i64 (.var 20),.int .u32 (u32v 21)]
def Tryz.zzU:List (SB×Bool):= []
def Tryz.zuN:List Leaf:= [
 ⟨.int .i64 (.lit 2),[(1,[.cst 0 none,.bool (.lit true),.int .i64 (szv 0),.int .u64 (u64v 1),.int .u64 (u64v 2),.int .u64 (u64v 3),.bool (.var 0),.bool (.var 1),.bool (.lit true),.int .i64 (lnv 4),.bool (.var 2),.int .i64 (lnv 5),.bool (.var 6),.map 2,.int .i64 (lnv 9),.int .i64 (.lit 0),.int .i64 (.var 6),.bool (.var 3),.int .i64 (u16v 7),.cst 1 none,.int .u32 (u32v 8),.bool (.var 4),.bool (.var 5),.bool (.lit false)])],[(2,[])],0,[1]⟩,
 ⟨.int .i64 (.lit 0),[(1,[.cst 0 none,.bool (.lit true),.int .i64 (szv 0),.int .u64 (u64v 1),.int .u64 (u64v 2),.int .u64 (u64v 3),.bool (.var 0),.bool (.var 1),.bool (.lit true),.int .i64 (lnv 4),.bool (.var 2),.int .i64 (lnv 5),.bool (.var 6),.map 2,.int .i64 (lnv 9),.int .i64 (.lit 7),.int .i64 (.lit 4),.bool (.lit false),.int .i64 (.var 20),.nils,.int .u32 (u32v 21),.bool (.lit false),.bool (.lit false),.bool (.lit false)])],[(2,[])],0,[1]⟩]
def Tryz.zuM:List (List (SB×Bool)×Nat):= [
 ([((.cmp .gtr (u32v 21) (u64v 23)),true)],0),
 ([((.cmp .gtr (u32v 21) (u64v 23)),false)],1)]
theorem Tryz.zzT:(ev prog (zau zlU) 100000 (.call 16 zlV (zas 0 zpC) (zaR zuN 0))).ways zzU=some zuM:=by kernel_rfl
theorem Tryz.zDw:(zai zpC&&zaf zlU&&AV.smallL zlV&&zal zuN)=true:=by kernel_rfl
end Go.Proofs
end
