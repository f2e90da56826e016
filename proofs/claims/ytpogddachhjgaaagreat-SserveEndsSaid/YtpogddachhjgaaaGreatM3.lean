/-
  Proved: laws on the way to 'SserveEndsProof' (texts SoB SoC SoD SoF SoG SoH SoI SoJ SoK SoL SoM SoN XaA DwLoop WkA WkB WkC WkD WkE WkF0 WkF); no condition.
-/
import Derived.Test.YtpogddachhjgaaaGreatM2
import Derived.Maps.AppendAt
import Derived.KernelRfl
import Derived.Defers
import Derived.BigFrame
import Derived.Recover
set_option linter.unusedSimpArgs false
set_option linter.unusedVariables false
noncomputable section
namespace Go.Proofs
open Go.Dw

def Tryz.chk_ents:List Ent:= []
def Tryz.chk_shs:List Sh:= []
def Tryz.chk_args:List AV:= [rg]
def Tryz.chk_asm:List (SB×Bool):= [(.cmp .neq (.flds [⟨1,0,18446744073709551615,0,4,0⟩] 0) (.lit 0),false),(.cmp .neq (.flds [⟨2,0,18446744073709551615,0,1,0⟩] 0) (.lit 0),false),(.cmp .neq (.flds [⟨3,0,18446744073709551615,0,2,0⟩] 0) (.lit 0),false),(.cmp .eql (.bin .and .i64 (szv 0) (.bin .sub .i64 (szv 0) (.lit 1))) (.lit 0),true),(.cmp .gtr (.bin .sub .u64 (.bin .mul .u64 (.lit 16) (szv 0)) (.lit 1)) (.bin .sub .u64 (.lit 18446744073709551615) (u64v 1)),false),(.cmp .gtr (.bin .sub .u64 (.bin .add .u64 (.lit 6) (.bin .mul .u64 (.lit 2) (szv 0))) (.lit 1)) (.bin .sub .u64 (.lit 18446744073709551615) (u64v 2)),false),(.cmp .gtr (.bin .sub .u64 (.bin .add .u64 (.lit 6) (.bin .mul .u64 (.lit 8) (szv 0))) (.lit 1)) (.bin .sub .u64 (.lit 18446744073709551615) (u64v 3)),false)]
def Tryz.chk_ls:List Leaf:= [
 ⟨.int .i64 (.lit 2),[],[],0,[]⟩,
 ⟨.int .i64 (.lit 0),[],[],0,[]⟩]
def Tryz.chk_ps:List (List (SB×Bool)×Nat):= [
 ([((.cmp .leq (u64v 2) (u64v 1)),true),((.cmp .lss (.bin .sub .u64 (u64v 1) (u64v 2)) (.bin .add .u64 (.lit 6) (.bin .mul .u64 (.lit 2) (szv 0)))),true)],0),
 ([((.cmp .leq (u64v 2) (u64v 1)),true),((.cmp .lss (.bin .sub .u64 (u64v 1) (u64v 2)) (.bin .add .u64 (.lit 6) (.bin .mul .u64 (.lit 2) (szv 0)))),false),((.cmp .leq (u64v 3) (u64v 1)),true),((.cmp .lss (.bin .sub .u64 (u64v 1) (u64v 3)) (.bin .add .u64 (.lit 6) (.bin .mul .u64 (.lit 8) (szv 0)))),true)],0),
 ([((.cmp .leq (u64v 2) (u64v 1)),true),((.cmp .lss (.bin .sub .u64 (u64v 1) (u64v 2)) (.bin .add .u64 (.lit 6) (.bin .mul .u64 (.lit 2) (szv 0)))),false),((.cmp .leq (u64v 3) (u64v 1)),true),((.cmp .lss (.bin .sub .u64 (u64v 1) (u64v 3)) (.bin .add .u64 (.lit 6) (.bin .mul .u64 (.lit 8) (szv 0)))),false),((.cmp .leq (u64v 3) (u64v 2)),true),((.cmp .lss (.bin .sub .u64 (u64v 2) (u64v 3)) (.bin .add .u64 (.lit 6) (.bin .mul .u64 (.lit 8) (szv 0)))),true)],0),
 ([((.cmp .leq (u64v 2) (u64v 1)),true),((.cmp .lss (.bin .sub .u64 (u64v 1) (u64v 2)) (.bin .add .u64 (.lit 6) (.bin .mul .u64 (.lit 2) (szv 0)))),false),((.cmp .leq (u64v 3) (u64v 1)),true),((.cmp .lss (.bin .sub .u64 (u64v 1) (u64v 3)) (.bin .add .u64 (.lit 6) (.bin .mul .u64 (.lit 8) (szv 0)))),false),((.cmp .leq (u64v 3) (u64v 2)),true),((.cmp .lss (.bin .sub .u64 (u64v 2) (u64v 3)) (.bin .add .u64 (.lit 6) (.bin .mul .u64 (.lit 8) (szv 0)))),false)],1),
 ([((.cmp .leq (u64v 2) (u64v 1)),true),((.cmp .lss (.bin .sub .u64 (u64v 1) (u64v 2)) (.bin .add .u64 (.lit 6) (.bin .mul .u64 (.lit 2) (szv 0)))),false),((.cmp .leq (u64v 3) (u64v 1)),true),((.cmp .lss (.bin .sub .u64 (u64v 1) (u64v 3)) (.bin .add .u64 (.lit 6) (.bin .mul .u64 (.lit 8) (szv 0)))),false),((.cmp .leq (u64v 3) (u64v 2)),false),((.cmp .lss (.bin .sub .u64 (u64v 3) (u64v 2)) (.bin .add .u64 (.lit 6) (.bin .mul .u64 (.lit 2) (szv 0)))),true)],0),
 ([((.cmp .leq (u64v 2) (u64v 1)),true),((.cmp .lss (.bin .sub .u64 (u64v 1) (u64v 2)) (.bin .add .u64 (.lit 6) (.bin .mul .u64 (.lit 2) (szv 0)))),false),((.cmp .leq (u64v 3) (u64v 1)),true),((.cmp .lss (.bin .sub .u64 (u64v 1) (u64v 3)) (.bin .add .u64 (.lit 6) (.bin .mul .u64 (.lit 8) (szv 0)))),false),((.cmp .leq (u64v 3) (u64v 2)),false),((.cmp .lss (.bin .sub .u64 (u64v 3) (u64v 2)) (.bin .add .u64 (.lit 6) (.bin .mul .u64 (.lit 2) (szv 0)))),false)],1),
 ([((.cmp .leq (u64v 2) (u64v 1)),true),((.cmp .lss (.bin .sub .u64 (u64v 1) (u64v 2)) (.bin .add .u64 (.lit 6) (.bin .mul .u64 (.lit 2) (szv 0)))),false),((.cmp .leq (u64v 3) (u64v 1)),false),((.cmp .lss (.bin .sub .u64 (u64v 3) (u64v 1)) (.bin .mul .u64 (.lit 16) (szv 0))),true)],0),
 ([((.cmp .leq (u64v 2) (u64v 1)),true),((.cmp .lss (.bin .sub .u64 (u64v 1) (u64v 2)) (.bin .add .u64 (.lit 6) (.bin .mul .u64 (.lit 2) (szv 0)))),false),((.cmp .leq (u64v 3) (u64v 1)),false),((.cmp .lss (.bin .sub .u64 (u64v 3) (u64v 1)) (.bin .mul .u64 (.lit 16) (szv 0))),false),((.cmp .leq (u64v 3) (u64v 2)),true),((.cmp .lss (.bin .sub .u64 (u64v 2) (u64v 3)) (.bin .add .u64 (.lit 6) (.bin .mul .u64 (.lit 8) (szv 0)))),true)],0),
 ([((.cmp .leq (u64v 2) (u64v 1)),true),((.cmp .lss (.bin .sub .u64 (u64v 1) (u64v 2)) (.bin .add .u64 (.lit 6) (.bin .mul .u64 (.lit 2) (szv 0)))),false),((.cmp .leq (u64v 3) (u64v 1)),false),((.cmp .lss (.bin .sub .u64 (u64v 3) (u64v 1)) (.bin .mul .u64 (.lit 16) (szv 0))),false),((.cmp .leq (u64v 3) (u64v 2)),true),((.cmp .lss (.bin .sub .u64 (u64v 2) (u64v 3)) (.bin .add .u64 (.lit 6) (.bin .mul .u64 (.lit 8) (szv 0)))),false)],1),
 ([((.cmp .leq (u64v 2) (u64v 1)),true),((.cmp .lss (.bin .sub .u64 (u64v 1) (u64v 2)) (.bin .add .u64 (.lit 6) (.bin .mul .u64 (.lit 2) (szv 0)))),false),((.cmp .leq (u64v 3) (u64v 1)),false),((.cmp .lss (.bin .sub .u64 (u64v 3) (u64v 1)) (.bin .mul .u64 (.lit 16) (szv 0))),false),((.cmp .leq (u64v 3) (u64v 2)),false),((.cmp .lss (.bin .sub .u64 (u64v 3) (u64v 2)) (.bin .add .u64 (.lit 6) (.bin .mul .u64 (.lit 2) (szv 0)))),true)],0),
 ([((.cmp .leq (u64v 2) (u64v 1)),true),((.cmp .lss (.bin .sub .u64 (u64v 1) (u64v 2)) (.bin .add .u64 (.lit 6) (.bin .mul .u64 (.lit 2) (szv 0)))),false),((.cmp .leq (u64v 3) (u64v 1)),false),((.cmp .lss (.bin .sub .u64 (u64v 3) (u64v 1)) (.bin .mul .u64 (.lit 16) (szv 0))),false),((.cmp .leq (u64v 3) (u64v 2)),false),((.cmp .lss (.bin .sub .u64 (u64v 3) (u64v 2)) (.bin .add .u64 (.lit 6) (.bin .mul .u64 (.lit 2) (szv 0)))),false)],1),
 ([((.cmp .leq (u64v 2) (u64v 1)),false),((.cmp .lss (.bin .sub .u64 (u64v 2) (u64v 1)) (.bin .mul .u64 (.lit 16) (szv 0))),true)],0),
 ([((.cmp .leq (u64v 2) (u64v 1)),false),((.cmp .lss (.bin .sub .u64 (u64v 2) (u64v 1)) (.bin .mul .u64 (.lit 16) (szv 0))),false),((.cmp .leq (u64v 3) (u64v 1)),true),((.cmp .lss (.bin .sub .u64 (u64v 1) (u64v 3)) (.bin .add .u64 (.lit 6) (.bin .mul .u64 (.lit 8) (szv 0)))),true)],0),
 ([((.cmp .leq (u64v 2) (u64v 1)),false),((.cmp .lss (.bin .sub .u64 (u64v 2) (u64v 1)) (.bin .mul .u64 (.lit 16) (szv 0))),false),((.cmp .leq (u64v 3) (u64v 1)),true),((.cmp .lss (.bin .sub .u64 (u64v 1) (u64v 3)) (.bin .add .u64 (.lit 6) (.bin .mul .u64 (.lit 8) (szv 0)))),false),((.cmp .leq (u64v 3) (u64v 2)),true),((.cmp .lss (.bin .sub .u64 (u64v 2) (u64v 3)) (.bin .add .u64 (.lit 6) (.bin .mul .u64 (.lit 8) (szv 0)))),true)],0),
 ([((.cmp .leq (u64v 2) (u64v 1)),false),((.cmp .lss (.bin .sub .u64 (u64v 2) (u64v 1)) (.bin .mul .u64 (.lit 16) (szv 0))),false),((.cmp .leq (u64v 3) (u64v 1)),true),((.cmp .lss (.bin .sub .u64 (u64v 1) (u64v 3)) (.bin .add .u64 (.lit 6) (.bin .mul .u64 (.lit 8) (szv 0)))),false),((.cmp .leq (u64v 3) (u64v 2)),true),((.cmp .lss (.bin .sub .u64 (u64v 2) (u64v 3)) (.bin .add .u64 (.lit 6) (.bin .mul .u64 (.lit 8) (szv 0)))),false)],1),
 ([((.cmp .leq (u64v 2) (u64v 1)),false),((.cmp .lss (.bin .sub .u64 (u64v 2) (u64v 1)) (.bin .mul .u64 (.lit 16) (szv 0))),false),((.cmp .leq (u64v 3) (u64v 1)),true),((.cmp .lss (.bin .sub .u64 (u64v 1) (u64v 3)) (.bin .add .u64 (.lit 6) (.bin .mul .u64 (.lit 8) (szv 0)))),false),((.cmp .leq (u64v 3) (u64v 2)),false),((.cmp .lss (.bin .sub .u64 (u64v 3) (u64v 2)) (.bin .add .u64 (.lit 6) (.bin .mul .u64 (.lit 2) (szv 0)))),true)],0),
 ([((.cmp .leq (u64v 2) (u64v 1)),false),((.cmp .lss (.bin .sub .u64 (u64v 2) (u64v 1)) (.bin .mul .u64 (.lit 16) (szv 0))),false),((.cmp .leq (u64v 3) (u64v 1)),true),((.cmp .lss (.bin .sub .u64 (u64v 1) (u64v 3)) (.bin .add .u64 (.lit 6) (.bin .mul .u64 (.lit 8) (szv 0)))),false),((.cmp .leq (u64v 3) (u64v 2)),false),((.cmp .lss (.bin .sub .u64 (u64v 3) (u64v 2)) (.bin .add .u64 (.lit 6) (.bin .mul .u64 (.lit 2) (szv 0)))),false)],1),
 ([((.cmp .leq (u64v 2) (u64v 1)),false),((.cmp .lss (.bin .sub .u64 (u64v 2) (u64v 1)) (.bin .mul .u64 (.lit 16) (szv 0))),false),((.cmp .leq (u64v 3) (u64v 1)),false),((.cmp .lss (.bin .sub .u64 (u64v 3) (u64v 1)) (.bin .mul .u64 (.lit 16) (szv 0))),true)],0),
 ([((.cmp .leq (u64v 2) (u64v 1)),false),((.cmp .lss (.bin .sub .u64 (u64v 2) (u64v 1)) (.bin .mul .u64 (.lit 16) (szv 0))),false),((.cmp .leq (u64v 3) (u64v 1)),false),((.cmp .lss (.bin .sub .u64 (u64v 3) (u64v 1)) (.bin .mul .u64 (.lit 16) (szv 0))),false),((.cmp .leq (u64v 3) (u64v 2)),true),((.cmp .lss (.bin .sub .u64 (u64v 2) (u64v 3)) (.bin .add .u64 (.lit 6) (.bin .mul .u64 (.lit 8) (szv 0)))),true)],0),
 ([((.cmp .leq (u64v 2) (u64v 1)),false),((.cmp .lss (.bin .sub .u64 (u64v 2) (u64v 1)) (.bin .mul .u64 (.lit 16) (szv 0))),false),((.cmp .leq (u64v 3) (u64v 1)),false),((.cmp .lss (.bin .sub .u64 (u64v 3) (u64v 1)) (.bin .mul .u64 (.lit 16) (szv 0))),false),((.cmp .leq (u64v 3) (u64v 2)),true),((.cmp .lss (.bin .sub .u64 (u64v 2) (u64v 3)) (.bin .add .u64 (.lit 6) (.bin .mul .u64 (.lit 8) (szv 0)))),false)],1),
 ([((.cmp .leq (u64v 2) (u64v 1)),false),((.cmp .lss (.bin .sub .u64 (u64v 2) (u64v 1)) (.bin .mul .u64 (.lit 16) (szv 0))),false),((.cmp .leq (u64v 3) (u64v 1)),false),((.cmp .lss (.bin .sub .u64 (u64v 3) (u64v 1)) (.bin .mul .u64 (.lit 16) (szv 0))),false),((.cmp .leq (u64v 3) (u64v 2)),false),((.cmp .lss (.bin .sub .u64 (u64v 3) (u64v 2)) (.bin .add .u64 (.lit 6) (.bin .mul .u64 (.lit 2) (szv 0)))),true)],0),
 ([((.cmp .leq (u64v 2) (u64v 1)),false),((.cmp .lss (.bin .sub .u64 (u64v 2) (u64v 1)) (.bin .mul .u64 (.lit 16) (szv 0))),false),((.cmp .leq (u64v 3) (u64v 1)),false),((.cmp .lss (.bin .sub .u64 (u64v 3) (u64v 1)) (.bin .mul .u64 (.lit 16) (szv 0))),false),((.cmp .leq (u64v 3) (u64v 2)),false),((.cmp .lss (.bin .sub .u64 (u64v 3) (u64v 2)) (.bin .add .u64 (.lit 6) (.bin .mul .u64 (.lit 2) (szv 0)))),false)],1)]
theorem Tryz.chk_run:(ev prog (entOrc chk_ents) 100000 (.call 72 chk_args (zaj 0 chk_shs) (leafAt chk_ls 0))).ways chk_asm=some chk_ps:=by kernel_rfl
theorem Tryz.chk_ok:(shsSmall chk_shs&&entsSmall chk_ents&&AV.smallL chk_args&&leavesExact chk_ls)=true:=by kernel_rfl
end Go.Proofs
namespace Go.Proofs
open Go.Dw Go.RowKit

theorem Tryz.mixed:prog.follows .mixedOrders=true:=by kernel_rfl
theorem Tryz.zrf {n:Int} (h: ∃k,k≤15∧n=2^k):zcB .and .i64 n (IntKind.wrap .i64 (n-1))=0:=by
 obtain ⟨k,hk,rfl⟩:=h
 have:k=0∨k=1∨k=2∨k=3∨k=4∨k=5∨k=6∨k=7∨k=8∨k=9∨k=10∨k=11∨k=12∨k=13∨k=14∨k=15:=by omega
 rcases this with rfl|rfl|rfl|rfl|rfl|rfl|rfl|rfl|rfl|rfl|rfl|rfl|rfl|rfl|rfl|rfl<;>decide
def Tryz.rho (r:Rg) (is:List Int) (bs:List Bool) (vs:List Value):Val:=vof (r.n::r.d::r.v::r.c::is) bs vs
section
variable {r:Tryz.Rg} {is:List Int} {bs:List Bool} {vs:List Value}
theorem Tryz.zds (h:RgOk r):(szv 0).den (rho r is bs vs)=r.n:=ziW h.bnd.1 h.bnd.2
theorem Tryz.zdX (h:RgOk r):(u64v 1).den (rho r is bs vs)=r.d:=zav h.d0 (by have:=h.dE;have:=h.bnd;show r.d<_;omega)
theorem Tryz.zer (h:RgOk r):(u64v 2).den (rho r is bs vs)=r.v:=zav h.v0 (by have:=h.vE;have:=h.bnd;show r.v<_;omega)
theorem Tryz.zes (h:RgOk r):(u64v 3).den (rho r is bs vs)=r.c:=zav h.c0 (by have:=h.cE;have:=h.bnd;show r.c<_;omega)
end
theorem Tryz.zee {ρ:Val} {i n:Nat} (h0:0≤ρ.i i) (h1:ρ.i i<18446744073709551616):SE.den ρ (.flds [⟨i,0,18446744073709551615,0,n,0⟩] 0)=ρ.i i%2^n:=by
 obtain ⟨x,hx⟩:=Int.eq_ofNat_of_zero_le h0
 simp only [SE.den,zae,Fld.den,hx,Int.toNat_natCast,Nat.shiftRight_zero,Nat.shiftLeft_zero,Nat.or_zero]
 rw [hx] at h1
 have e:max 0 (min x 18446744073709551615)=x:=by omega
 rw [e]
 rfl
theorem Tryz.R_rg {r:Rg} {is:List Int} {bs:List Bool} {vs:List Value} {j:J} (h:RgOk r):R (rho r is bs vs) j rg r.val:=
 zlG (zaa (zaH rfl) (zaa (zab (zds h)) (zaa (zab (zdX h)) (zaa (zab (zer h)) (zaa (zab (zes h)) RL.nil)))))
set_option maxHeartbeats 1000000 in
theorem Tryz.zbB (r:Rg) (h:RgOk r) (w:World):Calls prog 72 #[r.val] w fun e w'=>e= .returned (.int .i64 0)∧Below w.heap.size w w':=by
  have hb:=h.bnd
  obtain ⟨hpow,d0,v0,c0,d16,v2,c4,dE,vE,cE,dv,dc,vc⟩:=h
  have hr:RgOk r:=⟨hpow,d0,v0,c0,d16,v2,c4,dE,vE,cE,dv,dc,vc⟩
  have en:=zds (is:= []) (bs:= []) (vs:= []) hr
  have ed:=zdX (is:= []) (bs:= []) (vs:= []) hr
  have ev:=zer (is:= []) (bs:= []) (vs:= []) hr
  have ec:=zes (is:= []) (bs:= []) (vs:= []) hr
  have l1:=zee (ρ:=rho r [] [] []) (i:=1) (n:=4) d0 (by show r.d<_;omega)
  have l2:=zee (ρ:=rho r [] [] []) (i:=2) (n:=1) v0 (by show r.v<_;omega)
  have l3:=zee (ρ:=rho r [] [] []) (i:=3) (n:=2) c0 (by show r.c<_;omega)
  have w1:IntKind.wrap .u64 (16*r.n)=16*r.n:=zay (by omega) (by omega)
  have w2:IntKind.wrap .u64 (2*r.n)=2*r.n:=zay (by omega) (by omega)
  have w3:IntKind.wrap .u64 (8*r.n)=8*r.n:=zay (by omega) (by omega)
  have w4:IntKind.wrap .u64 (6+2*r.n)=6+2*r.n:=zay (by omega) (by omega)
  have w5:IntKind.wrap .u64 (6+8*r.n)=6+8*r.n:=zay (by omega) (by omega)
  have w6:IntKind.wrap .u64 (16*r.n-1)=16*r.n-1:=zay (by omega) (by omega)
  have w7:IntKind.wrap .u64 (6+2*r.n-1)=6+2*r.n-1:=zay (by omega) (by omega)
  have w8:IntKind.wrap .u64 (6+8*r.n-1)=6+8*r.n-1:=zay (by omega) (by omega)
  have x1:IntKind.wrap .u64 (18446744073709551615-r.d)=18446744073709551615-r.d:=zay (by omega) (by omega)
  have x2:IntKind.wrap .u64 (18446744073709551615-r.v)=18446744073709551615-r.v:=zay (by omega) (by omega)
  have x3:IntKind.wrap .u64 (18446744073709551615-r.c)=18446744073709551615-r.c:=zay (by omega) (by omega)
  have hpa:SE.den (rho r [] [] []) (.bin .and .i64 (szv 0) (.bin .sub .i64 (szv 0) (.lit 1)))=0:=by
    show zcB .and .i64 (SE.den _ (szv 0)) (IntKind.wrap .i64 (SE.den _ (szv 0)-1))=0
    rw [en]
    exact zrf hpow
  have ht:Dw.Told (rho r [] [] []) chk_asm:=by
    unfold chk_asm
    simp only [told_cons_iff,told_nil,zbf,zbm,zaP,zax,den_add,den_mul,zac,l1,l2,l3,en,ed,ev,ec,hpa,w1,w2,w3,w4,w5,w6,w7,w8,x1,x2,x3]
    refine ⟨?_,?_,?_,by decide,?_,?_,?_,trivial⟩
    · show ((r.d%2^4) !=0)=false
      have:r.d%2^4=0:=d16
      rw [this];rfl
    · show ((r.v%2^1) !=0)=false
      have:r.v%2^1=0:=v2
      rw [this];rfl
    · show ((r.c%2^2) !=0)=false
      have:r.c%2^2=0:=c4
      rw [this];rfl
    all_goals (simp;omega)
  refine Calls.mono (zap (K:=fun _=>False) (g:=Gho.none) (bl:= []) (vals:= [r.val]) mixed chk_run chk_ok (fun _ h=>h.elim) trivial trivial zas trivial (zaa (R_rg hr) RL.nil) ht) fun e w' hh=> ?_
  obtain ⟨p,hp,hto,l,hl,j,he⟩:=hh
  have hbel:=zag he (fun _ h=>h)
  unfold chk_ps at hp
  simp only [List.mem_cons,List.not_mem_nil,or_false] at hp
  have hleaf:p.2=1:=by
    rcases hp with rfl|rfl|rfl|rfl|rfl|rfl|rfl|rfl|rfl|rfl|rfl|rfl|rfl|rfl|rfl|rfl|rfl|rfl|rfl|rfl|rfl|rfl
    all_goals first
      | rfl
      | (exfalso
         simp only [told_cons_iff,told_nil,zbS,zaz,zaP,zcz,zax,den_add,den_mul,zac,en,ed,ev,ec,w1,w2,w3,w4,w5,zdB,decide_eq_true_eq,decide_eq_false_iff_not] at hto
         omega)
  rw [hleaf] at hl
  cases hl
  exact ⟨he.ret,hbel⟩
end Go.Proofs
namespace Go.Proofs
open Go.Dw

def Tryz.wh1_ents:List Ent:= [⟨72,[rg],0,0,0,.int .i64 (.lit 0),0⟩]
def Tryz.wh1_shs:List Sh:= []
def Tryz.wh1_args:List AV:= [rg,.int .i64 (.lit 1),.int .i64 (ixv 4)]
def Tryz.wh1_asm:List (SB×Bool):= [(.cmp .geq (ixv 4) (szv 0),false)]
def Tryz.wh1_ls:List Leaf:= [
 ⟨.tup [.int .u64 (.bin .add .u64 (u64v 1) (.bin .mul .u64 (.lit 16) (ixv 4))),.int .i64 (.lit 16),.int .i64 (.lit 0)],[],[],0,[]⟩]
def Tryz.wh1_ps:List (List (SB×Bool)×Nat):= [
 ([], 0)]
theorem Tryz.wh1_run:(ev prog (entOrc wh1_ents) 100000 (.call 120 wh1_args (zaj 0 wh1_shs) (leafAt wh1_ls 0))).ways wh1_asm=some wh1_ps:=by kernel_rfl
theorem Tryz.wh1_ok:(shsSmall wh1_shs&&entsSmall wh1_ents&&AV.smallL wh1_args&&leavesExact wh1_ls)=true:=by kernel_rfl

def Tryz.wh2_ents:List Ent:= [⟨72,[rg],0,0,0,.int .i64 (.lit 0),0⟩]
def Tryz.wh2_shs:List Sh:= []
def Tryz.wh2_args:List AV:= [rg,.int .i64 (.lit 2),.int .i64 (.lit 0)]
def Tryz.wh2_asm:List (SB×Bool):= []
def Tryz.wh2_ls:List Leaf:= [
 ⟨.tup [.int .u64 (u64v 2),.int .i64 (.lit 2),.int .i64 (.lit 0)],[],[],0,[]⟩]
def Tryz.wh2_ps:List (List (SB×Bool)×Nat):= [
 ([], 0)]
theorem Tryz.wh2_run:(ev prog (entOrc wh2_ents) 100000 (.call 120 wh2_args (zaj 0 wh2_shs) (leafAt wh2_ls 0))).ways wh2_asm=some wh2_ps:=by kernel_rfl
theorem Tryz.wh2_ok:(shsSmall wh2_shs&&entsSmall wh2_ents&&AV.smallL wh2_args&&leavesExact wh2_ls)=true:=by kernel_rfl

def Tryz.wh3_ents:List Ent:= [⟨72,[rg],0,0,0,.int .i64 (.lit 0),0⟩]
def Tryz.wh3_shs:List Sh:= []
def Tryz.wh3_args:List AV:= [rg,.int .i64 (.lit 3),.int .i64 (.lit 0)]
def Tryz.wh3_asm:List (SB×Bool):= []
def Tryz.wh3_ls:List Leaf:= [
 ⟨.tup [.int .u64 (.bin .add .u64 (u64v 2) (.lit 2)),.int .i64 (.lit 2),.int .i64 (.lit 0)],[],[],0,[]⟩]
def Tryz.wh3_ps:List (List (SB×Bool)×Nat):= [
 ([], 0)]
theorem Tryz.wh3_run:(ev prog (entOrc wh3_ents) 100000 (.call 120 wh3_args (zaj 0 wh3_shs) (leafAt wh3_ls 0))).ways wh3_asm=some wh3_ps:=by kernel_rfl
theorem Tryz.wh3_ok:(shsSmall wh3_shs&&entsSmall wh3_ents&&AV.smallL wh3_args&&leavesExact wh3_ls)=true:=by kernel_rfl

def Tryz.wh4_ents:List Ent:= [⟨72,[rg],0,0,0,.int .i64 (.lit 0),0⟩]
def Tryz.wh4_shs:List Sh:= []
def Tryz.wh4_args:List AV:= [rg,.int .i64 (.lit 4),.int .i64 (ixv 4)]
def Tryz.wh4_asm:List (SB×Bool):= [(.cmp .geq (ixv 4) (szv 0),false)]
def Tryz.wh4_ls:List Leaf:= [
 ⟨.tup [.int .u64 (.bin .add .u64 (.bin .add .u64 (u64v 2) (.lit 4)) (.bin .mul .u64 (.lit 2) (ixv 4))),.int .i64 (.lit 2),.int .i64 (.lit 0)],[],[],0,[]⟩]
def Tryz.wh4_ps:List (List (SB×Bool)×Nat):= [
 ([], 0)]
theorem Tryz.wh4_run:(ev prog (entOrc wh4_ents) 100000 (.call 120 wh4_args (zaj 0 wh4_shs) (leafAt wh4_ls 0))).ways wh4_asm=some wh4_ps:=by kernel_rfl
theorem Tryz.wh4_ok:(shsSmall wh4_shs&&entsSmall wh4_ents&&AV.smallL wh4_args&&leavesExact wh4_ls)=true:=by kernel_rfl

def Tryz.wh5_ents:List Ent:= [⟨72,[rg],0,0,0,.int .i64 (.lit 0),0⟩]
def Tryz.wh5_shs:List Sh:= []
def Tryz.wh5_args:List AV:= [rg,.int .i64 (.lit 5),.int .i64 (.lit 0)]
def Tryz.wh5_asm:List (SB×Bool):= []
def Tryz.wh5_ls:List Leaf:= [
 ⟨.tup [.int .u64 (.bin .add .u64 (.bin .add .u64 (u64v 2) (.lit 4)) (.bin .mul .u64 (.lit 2) (szv 0))),.int .i64 (.lit 2),.int .i64 (.lit 0)],[],[],0,[]⟩]
def Tryz.wh5_ps:List (List (SB×Bool)×Nat):= [
 ([], 0)]
theorem Tryz.wh5_run:(ev prog (entOrc wh5_ents) 100000 (.call 120 wh5_args (zaj 0 wh5_shs) (leafAt wh5_ls 0))).ways wh5_asm=some wh5_ps:=by kernel_rfl
theorem Tryz.wh5_ok:(shsSmall wh5_shs&&entsSmall wh5_ents&&AV.smallL wh5_args&&leavesExact wh5_ls)=true:=by kernel_rfl


def Tryz.wh7_ents:List Ent:= [⟨72,[rg],0,0,0,.int .i64 (.lit 0),0⟩]
def Tryz.wh7_shs:List Sh:= []
def Tryz.wh7_args:List AV:= [rg,.int .i64 (.lit 7),.int .i64 (.lit 0)]
def Tryz.wh7_asm:List (SB×Bool):= []
def Tryz.wh7_ls:List Leaf:= [
 ⟨.tup [.int .u64 (.bin .add .u64 (u64v 3) (.lit 2)),.int .i64 (.lit 2),.int .i64 (.lit 0)],[],[],0,[]⟩]
def Tryz.wh7_ps:List (List (SB×Bool)×Nat):= [
 ([], 0)]
theorem Tryz.wh7_run:(ev prog (entOrc wh7_ents) 100000 (.call 120 wh7_args (zaj 0 wh7_shs) (leafAt wh7_ls 0))).ways wh7_asm=some wh7_ps:=by kernel_rfl
theorem Tryz.wh7_ok:(shsSmall wh7_shs&&entsSmall wh7_ents&&AV.smallL wh7_args&&leavesExact wh7_ls)=true:=by kernel_rfl

def Tryz.wh8_ents:List Ent:= [⟨72,[rg],0,0,0,.int .i64 (.lit 0),0⟩]
def Tryz.wh8_shs:List Sh:= []
def Tryz.wh8_args:List AV:= [rg,.int .i64 (.lit 8),.int .i64 (ixv 4)]
def Tryz.wh8_asm:List (SB×Bool):= [(.cmp .geq (ixv 4) (szv 0),false)]
def Tryz.wh8_ls:List Leaf:= [
 ⟨.tup [.int .u64 (.bin .add .u64 (.bin .add .u64 (u64v 3) (.lit 4)) (.bin .mul .u64 (.lit 8) (ixv 4))),.int .i64 (.lit 8),.int .i64 (.lit 0)],[],[],0,[]⟩]
def Tryz.wh8_ps:List (List (SB×Bool)×Nat):= [
 ([], 0)]
theorem Tryz.wh8_run:(ev prog (entOrc wh8_ents) 100000 (.call 120 wh8_args (zaj 0 wh8_shs) (leafAt wh8_ls 0))).ways wh8_asm=some wh8_ps:=by kernel_rfl
theorem Tryz.wh8_ok:(shsSmall wh8_shs&&entsSmall wh8_ents&&AV.smallL wh8_args&&leavesExact wh8_ls)=true:=by kernel_rfl

def Tryz.wh9_ents:List Ent:= [⟨72,[rg],0,0,0,.int .i64 (.lit 0),0⟩]
def Tryz.wh9_shs:List Sh:= []
def Tryz.wh9_args:List AV:= [rg,.int .i64 (.lit 9),.int .i64 (.lit 0)]
def Tryz.wh9_asm:List (SB×Bool):= []
def Tryz.wh9_ls:List Leaf:= [
 ⟨.tup [.int .u64 (.bin .add .u64 (.bin .add .u64 (u64v 3) (.lit 4)) (.bin .mul .u64 (.lit 8) (szv 0))),.int .i64 (.lit 2),.int .i64 (.lit 0)],[],[],0,[]⟩]
def Tryz.wh9_ps:List (List (SB×Bool)×Nat):= [
 ([], 0)]
theorem Tryz.wh9_run:(ev prog (entOrc wh9_ents) 100000 (.call 120 wh9_args (zaj 0 wh9_shs) (leafAt wh9_ls 0))).ways wh9_asm=some wh9_ps:=by kernel_rfl
theorem Tryz.wh9_ok:(shsSmall wh9_shs&&entsSmall wh9_ents&&AV.smallL wh9_args&&leavesExact wh9_ls)=true:=by kernel_rfl
end Go.Proofs
namespace Go.Proofs
open Go.Dw

def Tryz.rpow_ents:List Ent:= []
def Tryz.rpow_shs:List Sh:= []
def Tryz.rpow_args:List AV:= [.int .i64 (szv 0)]
def Tryz.rpow_asm:List (SB×Bool):= []
def Tryz.rpow_ls:List Leaf:= [
 ⟨.bool (.lit true),[],[],0,[]⟩,
 ⟨.bool (.lit false),[],[],0,[]⟩]
def Tryz.rpow_ps:List (List (SB×Bool)×Nat):= [
 ([((.cmp .eql (.lit 1) (szv 0)),true)],0),
 ([((.cmp .eql (.lit 1) (szv 0)),false),((.cmp .eql (.lit 2) (szv 0)),true)],0),
 ([((.cmp .eql (.lit 1) (szv 0)),false),((.cmp .eql (.lit 2) (szv 0)),false),((.cmp .eql (.lit 4) (szv 0)),true)],0),
 ([((.cmp .eql (.lit 1) (szv 0)),false),((.cmp .eql (.lit 2) (szv 0)),false),((.cmp .eql (.lit 4) (szv 0)),false),((.cmp .eql (.lit 8) (szv 0)),true)],0),
 ([((.cmp .eql (.lit 1) (szv 0)),false),((.cmp .eql (.lit 2) (szv 0)),false),((.cmp .eql (.lit 4) (szv 0)),false),((.cmp .eql (.lit 8) (szv 0)),false),((.cmp .eql (.lit 16) (szv 0)),true)],0),
 ([((.cmp .eql (.lit 1) (szv 0)),false),((.cmp .eql (.lit 2) (szv 0)),false),((.cmp .eql (.lit 4) (szv 0)),false),((.cmp .eql (.lit 8) (szv 0)),false),((.cmp .eql (.lit 16) (szv 0)),false),((.cmp .eql (.lit 32) (szv 0)),true)],0),
 ([((.cmp .eql (.lit 1) (szv 0)),false),((.cmp .eql (.lit 2) (szv 0)),false),((.cmp .eql (.lit 4) (szv 0)),false),((.cmp .eql (.lit 8) (szv 0)),false),((.cmp .eql (.lit 16) (szv 0)),false),((.cmp .eql (.lit 32) (szv 0)),false),((.cmp .eql (.lit 64) (szv 0)),true)],0),
 ([((.cmp .eql (.lit 1) (szv 0)),false),((.cmp .eql (.lit 2) (szv 0)),false),((.cmp .eql (.lit 4) (szv 0)),false),((.cmp .eql (.lit 8) (szv 0)),false),((.cmp .eql (.lit 16) (szv 0)),false),((.cmp .eql (.lit 32) (szv 0)),false),((.cmp .eql (.lit 64) (szv 0)),false),((.cmp .eql (.lit 128) (szv 0)),true)],0),
 ([((.cmp .eql (.lit 1) (szv 0)),false),((.cmp .eql (.lit 2) (szv 0)),false),((.cmp .eql (.lit 4) (szv 0)),false),((.cmp .eql (.lit 8) (szv 0)),false),((.cmp .eql (.lit 16) (szv 0)),false),((.cmp .eql (.lit 32) (szv 0)),false),((.cmp .eql (.lit 64) (szv 0)),false),((.cmp .eql (.lit 128) (szv 0)),false),((.cmp .eql (.lit 256) (szv 0)),true)],0),
 ([((.cmp .eql (.lit 1) (szv 0)),false),((.cmp .eql (.lit 2) (szv 0)),false),((.cmp .eql (.lit 4) (szv 0)),false),((.cmp .eql (.lit 8) (szv 0)),false),((.cmp .eql (.lit 16) (szv 0)),false),((.cmp .eql (.lit 32) (szv 0)),false),((.cmp .eql (.lit 64) (szv 0)),false),((.cmp .eql (.lit 128) (szv 0)),false),((.cmp .eql (.lit 256) (szv 0)),false),((.cmp .eql (.lit 512) (szv 0)),true)],0),
 ([((.cmp .eql (.lit 1) (szv 0)),false),((.cmp .eql (.lit 2) (szv 0)),false),((.cmp .eql (.lit 4) (szv 0)),false),((.cmp .eql (.lit 8) (szv 0)),false),((.cmp .eql (.lit 16) (szv 0)),false),((.cmp .eql (.lit 32) (szv 0)),false),((.cmp .eql (.lit 64) (szv 0)),false),((.cmp .eql (.lit 128) (szv 0)),false),((.cmp .eql (.lit 256) (szv 0)),false),((.cmp .eql (.lit 512) (szv 0)),false),((.cmp .eql (.lit 1024) (szv 0)),true)],0),
 ([((.cmp .eql (.lit 1) (szv 0)),false),((.cmp .eql (.lit 2) (szv 0)),false),((.cmp .eql (.lit 4) (szv 0)),false),((.cmp .eql (.lit 8) (szv 0)),false),((.cmp .eql (.lit 16) (szv 0)),false),((.cmp .eql (.lit 32) (szv 0)),false),((.cmp .eql (.lit 64) (szv 0)),false),((.cmp .eql (.lit 128) (szv 0)),false),((.cmp .eql (.lit 256) (szv 0)),false),((.cmp .eql (.lit 512) (szv 0)),false),((.cmp .eql (.lit 1024) (szv 0)),false),((.cmp .eql (.lit 2048) (szv 0)),true)],0),
 ([((.cmp .eql (.lit 1) (szv 0)),false),((.cmp .eql (.lit 2) (szv 0)),false),((.cmp .eql (.lit 4) (szv 0)),false),((.cmp .eql (.lit 8) (szv 0)),false),((.cmp .eql (.lit 16) (szv 0)),false),((.cmp .eql (.lit 32) (szv 0)),false),((.cmp .eql (.lit 64) (szv 0)),false),((.cmp .eql (.lit 128) (szv 0)),false),((.cmp .eql (.lit 256) (szv 0)),false),((.cmp .eql (.lit 512) (szv 0)),false),((.cmp .eql (.lit 1024) (szv 0)),false),((.cmp .eql (.lit 2048) (szv 0)),false),((.cmp .eql (.lit 4096) (szv 0)),true)],0),
 ([((.cmp .eql (.lit 1) (szv 0)),false),((.cmp .eql (.lit 2) (szv 0)),false),((.cmp .eql (.lit 4) (szv 0)),false),((.cmp .eql (.lit 8) (szv 0)),false),((.cmp .eql (.lit 16) (szv 0)),false),((.cmp .eql (.lit 32) (szv 0)),false),((.cmp .eql (.lit 64) (szv 0)),false),((.cmp .eql (.lit 128) (szv 0)),false),((.cmp .eql (.lit 256) (szv 0)),false),((.cmp .eql (.lit 512) (szv 0)),false),((.cmp .eql (.lit 1024) (szv 0)),false),((.cmp .eql (.lit 2048) (szv 0)),false),((.cmp .eql (.lit 4096) (szv 0)),false),((.cmp .eql (.lit 8192) (szv 0)),true)],0),
 ([((.cmp .eql (.lit 1) (szv 0)),false),((.cmp .eql (.lit 2) (szv 0)),false),((.cmp .eql (.lit 4) (szv 0)),false),((.cmp .eql (.lit 8) (szv 0)),false),((.cmp .eql (.lit 16) (szv 0)),false),((.cmp .eql (.lit 32) (szv 0)),false),((.cmp .eql (.lit 64) (szv 0)),false),((.cmp .eql (.lit 128) (szv 0)),false),((.cmp .eql (.lit 256) (szv 0)),false),((.cmp .eql (.lit 512) (szv 0)),false),((.cmp .eql (.lit 1024) (szv 0)),false),((.cmp .eql (.lit 2048) (szv 0)),false),((.cmp .eql (.lit 4096) (szv 0)),false),((.cmp .eql (.lit 8192) (szv 0)),false),((.cmp .eql (.lit 16384) (szv 0)),true)],0),
 ([((.cmp .eql (.lit 1) (szv 0)),false),((.cmp .eql (.lit 2) (szv 0)),false),((.cmp .eql (.lit 4) (szv 0)),false),((.cmp .eql (.lit 8) (szv 0)),false),((.cmp .eql (.lit 16) (szv 0)),false),((.cmp .eql (.lit 32) (szv 0)),false),((.cmp .eql (.lit 64) (szv 0)),false),((.cmp .eql (.lit 128) (szv 0)),false),((.cmp .eql (.lit 256) (szv 0)),false),((.cmp .eql (.lit 512) (szv 0)),false),((.cmp .eql (.lit 1024) (szv 0)),false),((.cmp .eql (.lit 2048) (szv 0)),false),((.cmp .eql (.lit 4096) (szv 0)),false),((.cmp .eql (.lit 8192) (szv 0)),false),((.cmp .eql (.lit 16384) (szv 0)),false),((.cmp .eql (.lit 32768) (szv 0)),true)],0),
 ([((.cmp .eql (.lit 1) (szv 0)),false),((.cmp .eql (.lit 2) (szv 0)),false),((.cmp .eql (.lit 4) (szv 0)),false),((.cmp .eql (.lit 8) (szv 0)),false),((.cmp .eql (.lit 16) (szv 0)),false),((.cmp .eql (.lit 32) (szv 0)),false),((.cmp .eql (.lit 64) (szv 0)),false),((.cmp .eql (.lit 128) (szv 0)),false),((.cmp .eql (.lit 256) (szv 0)),false),((.cmp .eql (.lit 512) (szv 0)),false),((.cmp .eql (.lit 1024) (szv 0)),false),((.cmp .eql (.lit 2048) (szv 0)),false),((.cmp .eql (.lit 4096) (szv 0)),false),((.cmp .eql (.lit 8192) (szv 0)),false),((.cmp .eql (.lit 16384) (szv 0)),false),((.cmp .eql (.lit 32768) (szv 0)),false)],1)]
theorem Tryz.rpow_run:(ev prog (entOrc rpow_ents) 100000 (.call 95 rpow_args (zaj 0 rpow_shs) (leafAt rpow_ls 0))).ways rpow_asm=some rpow_ps:=by kernel_rfl
theorem Tryz.rpow_ok:(shsSmall rpow_shs&&entsSmall rpow_ents&&AV.smallL rpow_args&&leavesExact rpow_ls)=true:=by kernel_rfl

def Tryz.rchk_ents:List Ent:= [⟨95,[.int .i64 (szv 0)],0,0,0,.bool (.lit true),0⟩]
def Tryz.rchk_shs:List Sh:= []
def Tryz.rchk_args:List AV:= [rg]
def Tryz.rchk_asm:List (SB×Bool):= [(.cmp .neq (.flds [⟨1,0,18446744073709551615,0,4,0⟩] 0) (.lit 0),false),(.cmp .neq (.flds [⟨2,0,18446744073709551615,0,1,0⟩] 0) (.lit 0),false),(.cmp .neq (.flds [⟨3,0,18446744073709551615,0,2,0⟩] 0) (.lit 0),false),(.cmp .lss (.bin .add .u64 (u64v 1) (.bin .sub .u64 (.bin .mul .u64 (.lit 16) (szv 0)) (.lit 1))) (u64v 1),false),(.cmp .lss (.bin .add .u64 (u64v 2) (.bin .sub .u64 (.bin .add .u64 (.lit 6) (.bin .mul .u64 (.lit 2) (szv 0))) (.lit 1))) (u64v 2),false),(.cmp .lss (.bin .add .u64 (u64v 3) (.bin .sub .u64 (.bin .add .u64 (.lit 6) (.bin .mul .u64 (.lit 8) (szv 0))) (.lit 1))) (u64v 3),false)]
def Tryz.rchk_ls:List Leaf:= [
 ⟨.int .i64 (.lit 2),[],[],0,[]⟩,
 ⟨.int .i64 (.lit 0),[],[],0,[]⟩]
def Tryz.rchk_ps:List (List (SB×Bool)×Nat):= [
 ([((.cmp .leq (u64v 2) (u64v 1)),true),((.cmp .lss (.bin .sub .u64 (u64v 1) (u64v 2)) (.bin .add .u64 (.lit 6) (.bin .mul .u64 (.lit 2) (szv 0)))),true)],0),
 ([((.cmp .leq (u64v 2) (u64v 1)),true),((.cmp .lss (.bin .sub .u64 (u64v 1) (u64v 2)) (.bin .add .u64 (.lit 6) (.bin .mul .u64 (.lit 2) (szv 0)))),false),((.cmp .leq (u64v 3) (u64v 1)),true),((.cmp .lss (.bin .sub .u64 (u64v 1) (u64v 3)) (.bin .add .u64 (.lit 6) (.bin .mul .u64 (.lit 8) (szv 0)))),true)],0),
 ([((.cmp .leq (u64v 2) (u64v 1)),true),((.cmp .lss (.bin .sub .u64 (u64v 1) (u64v 2)) (.bin .add .u64 (.lit 6) (.bin .mul .u64 (.lit 2) (szv 0)))),false),((.cmp .leq (u64v 3) (u64v 1)),true),((.cmp .lss (.bin .sub .u64 (u64v 1) (u64v 3)) (.bin .add .u64 (.lit 6) (.bin .mul .u64 (.lit 8) (szv 0)))),false),((.cmp .leq (u64v 3) (u64v 2)),true),((.cmp .lss (.bin .sub .u64 (u64v 2) (u64v 3)) (.bin .add .u64 (.lit 6) (.bin .mul .u64 (.lit 8) (szv 0)))),true)],0),
 ([((.cmp .leq (u64v 2) (u64v 1)),true),((.cmp .lss (.bin .sub .u64 (u64v 1) (u64v 2)) (.bin .add .u64 (.lit 6) (.bin .mul .u64 (.lit 2) (szv 0)))),false),((.cmp .leq (u64v 3) (u64v 1)),true),((.cmp .lss (.bin .sub .u64 (u64v 1) (u64v 3)) (.bin .add .u64 (.lit 6) (.bin .mul .u64 (.lit 8) (szv 0)))),false),((.cmp .leq (u64v 3) (u64v 2)),true),((.cmp .lss (.bin .sub .u64 (u64v 2) (u64v 3)) (.bin .add .u64 (.lit 6) (.bin .mul .u64 (.lit 8) (szv 0)))),false)],1),
 ([((.cmp .leq (u64v 2) (u64v 1)),true),((.cmp .lss (.bin .sub .u64 (u64v 1) (u64v 2)) (.bin .add .u64 (.lit 6) (.bin .mul .u64 (.lit 2) (szv 0)))),false),((.cmp .leq (u64v 3) (u64v 1)),true),((.cmp .lss (.bin .sub .u64 (u64v 1) (u64v 3)) (.bin .add .u64 (.lit 6) (.bin .mul .u64 (.lit 8) (szv 0)))),false),((.cmp .leq (u64v 3) (u64v 2)),false),((.cmp .lss (.bin .sub .u64 (u64v 3) (u64v 2)) (.bin .add .u64 (.lit 6) (.bin .mul .u64 (.lit 2) (szv 0)))),true)],0),
 ([((.cmp .leq (u64v 2) (u64v 1)),true),((.cmp .lss (.bin .sub .u64 (u64v 1) (u64v 2)) (.bin .add .u64 (.lit 6) (.bin .mul .u64 (.lit 2) (szv 0)))),false),((.cmp .leq (u64v 3) (u64v 1)),true),((.cmp .lss (.bin .sub .u64 (u64v 1) (u64v 3)) (.bin .add .u64 (.lit 6) (.bin .mul .u64 (.lit 8) (szv 0)))),false),((.cmp .leq (u64v 3) (u64v 2)),false),((.cmp .lss (.bin .sub .u64 (u64v 3) (u64v 2)) (.bin .add .u64 (.lit 6) (.bin .mul .u64 (.lit 2) (szv 0)))),false)],1),
 ([((.cmp .leq (u64v 2) (u64v 1)),true),((.cmp .lss (.bin .sub .u64 (u64v 1) (u64v 2)) (.bin .add .u64 (.lit 6) (.bin .mul .u64 (.lit 2) (szv 0)))),false),((.cmp .leq (u64v 3) (u64v 1)),false),((.cmp .lss (.bin .sub .u64 (u64v 3) (u64v 1)) (.bin .mul .u64 (.lit 16) (szv 0))),true)],0),
 ([((.cmp .leq (u64v 2) (u64v 1)),true),((.cmp .lss (.bin .sub .u64 (u64v 1) (u64v 2)) (.bin .add .u64 (.lit 6) (.bin .mul .u64 (.lit 2) (szv 0)))),false),((.cmp .leq (u64v 3) (u64v 1)),false),((.cmp .lss (.bin .sub .u64 (u64v 3) (u64v 1)) (.bin .mul .u64 (.lit 16) (szv 0))),false),((.cmp .leq (u64v 3) (u64v 2)),true),((.cmp .lss (.bin .sub .u64 (u64v 2) (u64v 3)) (.bin .add .u64 (.lit 6) (.bin .mul .u64 (.lit 8) (szv 0)))),true)],0),
 ([((.cmp .leq (u64v 2) (u64v 1)),true),((.cmp .lss (.bin .sub .u64 (u64v 1) (u64v 2)) (.bin .add .u64 (.lit 6) (.bin .mul .u64 (.lit 2) (szv 0)))),false),((.cmp .leq (u64v 3) (u64v 1)),false),((.cmp .lss (.bin .sub .u64 (u64v 3) (u64v 1)) (.bin .mul .u64 (.lit 16) (szv 0))),false),((.cmp .leq (u64v 3) (u64v 2)),true),((.cmp .lss (.bin .sub .u64 (u64v 2) (u64v 3)) (.bin .add .u64 (.lit 6) (.bin .mul .u64 (.lit 8) (szv 0)))),false)],1),
 ([((.cmp .leq (u64v 2) (u64v 1)),true),((.cmp .lss (.bin .sub .u64 (u64v 1) (u64v 2)) (.bin .add .u64 (.lit 6) (.bin .mul .u64 (.lit 2) (szv 0)))),false),((.cmp .leq (u64v 3) (u64v 1)),false),((.cmp .lss (.bin .sub .u64 (u64v 3) (u64v 1)) (.bin .mul .u64 (.lit 16) (szv 0))),false),((.cmp .leq (u64v 3) (u64v 2)),false),((.cmp .lss (.bin .sub .u64 (u64v 3) (u64v 2)) (.bin .add .u64 (.lit 6) (.bin .mul .u64 (.lit 2) (szv 0)))),true)],0),
 ([((.cmp .leq (u64v 2) (u64v 1)),true),((.cmp .lss (.bin .sub .u64 (u64v 1) (u64v 2)) (.bin .add .u64 (.lit 6) (.bin .mul .u64 (.lit 2) (szv 0)))),false),((.cmp .leq (u64v 3) (u64v 1)),false),((.cmp .lss (.bin .sub .u64 (u64v 3) (u64v 1)) (.bin .mul .u64 (.lit 16) (szv 0))),false),((.cmp .leq (u64v 3) (u64v 2)),false),((.cmp .lss (.bin .sub .u64 (u64v 3) (u64v 2)) (.bin .add .u64 (.lit 6) (.bin .mul .u64 (.lit 2) (szv 0)))),false)],1),
 ([((.cmp .leq (u64v 2) (u64v 1)),false),((.cmp .lss (.bin .sub .u64 (u64v 2) (u64v 1)) (.bin .mul .u64 (.lit 16) (szv 0))),true)],0),
 ([((.cmp .leq (u64v 2) (u64v 1)),false),((.cmp .lss (.bin .sub .u64 (u64v 2) (u64v 1)) (.bin .mul .u64 (.lit 16) (szv 0))),false),((.cmp .leq (u64v 3) (u64v 1)),true),((.cmp .lss (.bin .sub .u64 (u64v 1) (u64v 3)) (.bin .add .u64 (.lit 6) (.bin .mul .u64 (.lit 8) (szv 0)))),true)],0),
 ([((.cmp .leq (u64v 2) (u64v 1)),false),((.cmp .lss (.bin .sub .u64 (u64v 2) (u64v 1)) (.bin .mul .u64 (.lit 16) (szv 0))),false),((.cmp .leq (u64v 3) (u64v 1)),true),((.cmp .lss (.bin .sub .u64 (u64v 1) (u64v 3)) (.bin .add .u64 (.lit 6) (.bin .mul .u64 (.lit 8) (szv 0)))),false),((.cmp .leq (u64v 3) (u64v 2)),true),((.cmp .lss (.bin .sub .u64 (u64v 2) (u64v 3)) (.bin .add .u64 (.lit 6) (.bin .mul .u64 (.lit 8) (szv 0)))),true)],0),
 ([((.cmp .leq (u64v 2) (u64v 1)),false),((.cmp .lss (.bin .sub .u64 (u64v 2) (u64v 1)) (.bin .mul .u64 (.lit 16) (szv 0))),false),((.cmp .leq (u64v 3) (u64v 1)),true),((.cmp .lss (.bin .sub .u64 (u64v 1) (u64v 3)) (.bin .add .u64 (.lit 6) (.bin .mul .u64 (.lit 8) (szv 0)))),false),((.cmp .leq (u64v 3) (u64v 2)),true),((.cmp .lss (.bin .sub .u64 (u64v 2) (u64v 3)) (.bin .add .u64 (.lit 6) (.bin .mul .u64 (.lit 8) (szv 0)))),false)],1),
 ([((.cmp .leq (u64v 2) (u64v 1)),false),((.cmp .lss (.bin .sub .u64 (u64v 2) (u64v 1)) (.bin .mul .u64 (.lit 16) (szv 0))),false),((.cmp .leq (u64v 3) (u64v 1)),true),((.cmp .lss (.bin .sub .u64 (u64v 1) (u64v 3)) (.bin .add .u64 (.lit 6) (.bin .mul .u64 (.lit 8) (szv 0)))),false),((.cmp .leq (u64v 3) (u64v 2)),false),((.cmp .lss (.bin .sub .u64 (u64v 3) (u64v 2)) (.bin .add .u64 (.lit 6) (.bin .mul .u64 (.lit 2) (szv 0)))),true)],0),
 ([((.cmp .leq (u64v 2) (u64v 1)),false),((.cmp .lss (.bin .sub .u64 (u64v 2) (u64v 1)) (.bin .mul .u64 (.lit 16) (szv 0))),false),((.cmp .leq (u64v 3) (u64v 1)),true),((.cmp .lss (.bin .sub .u64 (u64v 1) (u64v 3)) (.bin .add .u64 (.lit 6) (.bin .mul .u64 (.lit 8) (szv 0)))),false),((.cmp .leq (u64v 3) (u64v 2)),false),((.cmp .lss (.bin .sub .u64 (u64v 3) (u64v 2)) (.bin .add .u64 (.lit 6) (.bin .mul .u64 (.lit 2) (szv 0)))),false)],1),
 ([((.cmp .leq (u64v 2) (u64v 1)),false),((.cmp .lss (.bin .sub .u64 (u64v 2) (u64v 1)) (.bin .mul .u64 (.lit 16) (szv 0))),false),((.cmp .leq (u64v 3) (u64v 1)),false),((.cmp .lss (.bin .sub .u64 (u64v 3) (u64v 1)) (.bin .mul .u64 (.lit 16) (szv 0))),true)],0),
 ([((.cmp .leq (u64v 2) (u64v 1)),false),((.cmp .lss (.bin .sub .u64 (u64v 2) (u64v 1)) (.bin .mul .u64 (.lit 16) (szv 0))),false),((.cmp .leq (u64v 3) (u64v 1)),false),((.cmp .lss (.bin .sub .u64 (u64v 3) (u64v 1)) (.bin .mul .u64 (.lit 16) (szv 0))),false),((.cmp .leq (u64v 3) (u64v 2)),true),((.cmp .lss (.bin .sub .u64 (u64v 2) (u64v 3)) (.bin .add .u64 (.lit 6) (.bin .mul .u64 (.lit 8) (szv 0)))),true)],0),
 ([((.cmp .leq (u64v 2) (u64v 1)),false),((.cmp .lss (.bin .sub .u64 (u64v 2) (u64v 1)) (.bin .mul .u64 (.lit 16) (szv 0))),false),((.cmp .leq (u64v 3) (u64v 1)),false),((.cmp .lss (.bin .sub .u64 (u64v 3) (u64v 1)) (.bin .mul .u64 (.lit 16) (szv 0))),false),((.cmp .leq (u64v 3) (u64v 2)),true),((.cmp .lss (.bin .sub .u64 (u64v 2) (u64v 3)) (.bin .add .u64 (.lit 6) (.bin .mul .u64 (.lit 8) (szv 0)))),false)],1),
 ([((.cmp .leq (u64v 2) (u64v 1)),false),((.cmp .lss (.bin .sub .u64 (u64v 2) (u64v 1)) (.bin .mul .u64 (.lit 16) (szv 0))),false),((.cmp .leq (u64v 3) (u64v 1)),false),((.cmp .lss (.bin .sub .u64 (u64v 3) (u64v 1)) (.bin .mul .u64 (.lit 16) (szv 0))),false),((.cmp .leq (u64v 3) (u64v 2)),false),((.cmp .lss (.bin .sub .u64 (u64v 3) (u64v 2)) (.bin .add .u64 (.lit 6) (.bin .mul .u64 (.lit 2) (szv 0)))),true)],0),
 ([((.cmp .leq (u64v 2) (u64v 1)),false),((.cmp .lss (.bin .sub .u64 (u64v 2) (u64v 1)) (.bin .mul .u64 (.lit 16) (szv 0))),false),((.cmp .leq (u64v 3) (u64v 1)),false),((.cmp .lss (.bin .sub .u64 (u64v 3) (u64v 1)) (.bin .mul .u64 (.lit 16) (szv 0))),false),((.cmp .leq (u64v 3) (u64v 2)),false),((.cmp .lss (.bin .sub .u64 (u64v 3) (u64v 2)) (.bin .add .u64 (.lit 6) (.bin .mul .u64 (.lit 2) (szv 0)))),false)],1)]
theorem Tryz.rchk_run:(ev prog (entOrc rchk_ents) 100000 (.call 62 rchk_args (zaj 0 rchk_shs) (leafAt rchk_ls 0))).ways rchk_asm=some rchk_ps:=by kernel_rfl
theorem Tryz.rchk_ok:(shsSmall rchk_shs&&entsSmall rchk_ents&&AV.smallL rchk_args&&leavesExact rchk_ls)=true:=by kernel_rfl



def Tryz.rwh3_ents:List Ent:= [⟨62,[rg],0,0,0,.int .i64 (.lit 0),0⟩]
def Tryz.rwh3_shs:List Sh:= []
def Tryz.rwh3_args:List AV:= [rg,.int .i64 (.lit 3),.int .i64 (.lit 0)]
def Tryz.rwh3_asm:List (SB×Bool):= []
def Tryz.rwh3_ls:List Leaf:= [
 ⟨.tup [.int .u64 (.bin .add .u64 (u64v 2) (.lit 2)),.int .i64 (.lit 2),.int .i64 (.lit 0)],[],[],0,[]⟩]
def Tryz.rwh3_ps:List (List (SB×Bool)×Nat):= [
 ([], 0)]
theorem Tryz.rwh3_run:(ev prog (entOrc rwh3_ents) 100000 (.call 20 rwh3_args (zaj 0 rwh3_shs) (leafAt rwh3_ls 0))).ways rwh3_asm=some rwh3_ps:=by kernel_rfl
theorem Tryz.rwh3_ok:(shsSmall rwh3_shs&&entsSmall rwh3_ents&&AV.smallL rwh3_args&&leavesExact rwh3_ls)=true:=by kernel_rfl

def Tryz.rwh4_ents:List Ent:= [⟨62,[rg],0,0,0,.int .i64 (.lit 0),0⟩]
def Tryz.rwh4_shs:List Sh:= []
def Tryz.rwh4_args:List AV:= [rg,.int .i64 (.lit 4),.int .i64 (ixv 4)]
def Tryz.rwh4_asm:List (SB×Bool):= [(.cmp .geq (ixv 4) (szv 0),false)]
def Tryz.rwh4_ls:List Leaf:= [
 ⟨.tup [.int .u64 (.bin .add .u64 (.bin .add .u64 (u64v 2) (.lit 4)) (.bin .mul .u64 (.lit 2) (ixv 4))),.int .i64 (.lit 2),.int .i64 (.lit 0)],[],[],0,[]⟩]
def Tryz.rwh4_ps:List (List (SB×Bool)×Nat):= [
 ([], 0)]
theorem Tryz.rwh4_run:(ev prog (entOrc rwh4_ents) 100000 (.call 20 rwh4_args (zaj 0 rwh4_shs) (leafAt rwh4_ls 0))).ways rwh4_asm=some rwh4_ps:=by kernel_rfl
theorem Tryz.rwh4_ok:(shsSmall rwh4_shs&&entsSmall rwh4_ents&&AV.smallL rwh4_args&&leavesExact rwh4_ls)=true:=by kernel_rfl






end Go.Proofs
namespace Go.Proofs
open Go.Dw Go.RowKit

theorem Tryz.zpG (r:Rg) (h:RgOk r) (w:World):Calls prog 95 #[.int .i64 r.n] w fun e w'=>e= .returned (.bool true)∧Below w.heap.size w w':=by
  have en:=zds (is:= []) (bs:= []) (vs:= []) h
  refine Calls.mono (zap (ρ:=rho r [] [] []) (K:=fun _=>False) (g:=Gho.none) (bl:= []) (vals:= [.int .i64 r.n]) mixed rpow_run rpow_ok (fun _ h=>h.elim) trivial trivial zas trivial (zaa (zab en) RL.nil) (fun _ h=>by cases h)) fun e w' hh=> ?_
  obtain ⟨p,hp,hto,l,hl,j,he⟩:=hh
  have hbel:=zag he (fun _ h=>h)
  unfold rpow_ps at hp
  simp only [List.mem_cons,List.not_mem_nil,or_false] at hp
  have hleaf:p.2=0:=by
    obtain ⟨k,hk,hn⟩:=h.pow
    have hk16:k=0∨k=1∨k=2∨k=3∨k=4∨k=5∨k=6∨k=7∨k=8∨k=9∨k=10∨k=11∨k=12∨k=13∨k=14∨k=15:=by omega
    rcases hp with rfl|rfl|rfl|rfl|rfl|rfl|rfl|rfl|rfl|rfl|rfl|rfl|rfl|rfl|rfl|rfl|rfl
    all_goals first
      | rfl
      | (exfalso
         simp only [told_cons_iff,told_nil,zbm,zac,en,beq_eq_false_iff_ne,ne_eq] at hto
         rcases hk16 with rfl|rfl|rfl|rfl|rfl|rfl|rfl|rfl|rfl|rfl|rfl|rfl|rfl|rfl|rfl|rfl<;>(simp only [Int.reducePow,Nat.reducePow,Int.pow_succ,Int.pow_zero] at hn;omega))
  rw [hleaf] at hl
  cases hl
  exact ⟨he.ret,hbel⟩
set_option maxHeartbeats 1000000 in
theorem Tryz.zhQ (r:Rg) (h:RgOk r) (w:World):Calls prog 62 #[r.val] w fun e w'=>e= .returned (.int .i64 0)∧Below w.heap.size w w':=by
  have hb:=h.bnd
  obtain ⟨hpow,d0,v0,c0,d16,v2,c4,dE,vE,cE,dv,dc,vc⟩:=h
  have hr:RgOk r:=⟨hpow,d0,v0,c0,d16,v2,c4,dE,vE,cE,dv,dc,vc⟩
  have en:=zds (is:= []) (bs:= []) (vs:= []) hr
  have ed:=zdX (is:= []) (bs:= []) (vs:= []) hr
  have ev:=zer (is:= []) (bs:= []) (vs:= []) hr
  have ec:=zes (is:= []) (bs:= []) (vs:= []) hr
  have l1:=zee (ρ:=rho r [] [] []) (i:=1) (n:=4) d0 (by show r.d<_;omega)
  have l2:=zee (ρ:=rho r [] [] []) (i:=2) (n:=1) v0 (by show r.v<_;omega)
  have l3:=zee (ρ:=rho r [] [] []) (i:=3) (n:=2) c0 (by show r.c<_;omega)
  have w1:IntKind.wrap .u64 (16*r.n)=16*r.n:=zay (by omega) (by omega)
  have w2:IntKind.wrap .u64 (2*r.n)=2*r.n:=zay (by omega) (by omega)
  have w3:IntKind.wrap .u64 (8*r.n)=8*r.n:=zay (by omega) (by omega)
  have w4:IntKind.wrap .u64 (6+2*r.n)=6+2*r.n:=zay (by omega) (by omega)
  have w5:IntKind.wrap .u64 (6+8*r.n)=6+8*r.n:=zay (by omega) (by omega)
  have w6:IntKind.wrap .u64 (16*r.n-1)=16*r.n-1:=zay (by omega) (by omega)
  have w7:IntKind.wrap .u64 (6+2*r.n-1)=6+2*r.n-1:=zay (by omega) (by omega)
  have w8:IntKind.wrap .u64 (6+8*r.n-1)=6+8*r.n-1:=zay (by omega) (by omega)
  have x1:IntKind.wrap .u64 (18446744073709551615-r.d)=18446744073709551615-r.d:=zay (by omega) (by omega)
  have x2:IntKind.wrap .u64 (18446744073709551615-r.v)=18446744073709551615-r.v:=zay (by omega) (by omega)
  have x3:IntKind.wrap .u64 (18446744073709551615-r.c)=18446744073709551615-r.c:=zay (by omega) (by omega)
  have ht:Dw.Told (rho r [] [] []) rchk_asm:=by
    unfold rchk_asm
    have y1:IntKind.wrap .u64 (r.d+(16*r.n-1))=r.d+(16*r.n-1):=zay (by omega) (by omega)
    have y2:IntKind.wrap .u64 (r.v+(6+2*r.n-1))=r.v+(6+2*r.n-1):=zay (by omega) (by omega)
    have y3:IntKind.wrap .u64 (r.c+(6+8*r.n-1))=r.c+(6+8*r.n-1):=zay (by omega) (by omega)
    simp only [told_cons_iff,told_nil,zbf,zaz,zax,den_add,den_mul,zac,l1,l2,l3,en,ed,ev,ec,w1,w2,w3,w4,w5,w6,w7,w8,y1,y2,y3]
    refine ⟨?_,?_,?_,?_,?_,?_,trivial⟩
    · show ((r.d%2^4) !=0)=false
      have:r.d%2^4=0:=d16
      rw [this];rfl
    · show ((r.v%2^1) !=0)=false
      have:r.v%2^1=0:=v2
      rw [this];rfl
    · show ((r.c%2^2) !=0)=false
      have:r.c%2^2=0:=c4
      rw [this];rfl
    all_goals (simp;omega)
  refine Calls.mono (zap (K:=fun _=>False) (g:=Gho.none) (bl:= []) (vals:= [r.val]) mixed rchk_run rchk_ok (fun _ h=>h.elim) trivial trivial zas ⟨zak (Dw.enters_of (by kernel_rfl)) rfl [.int .i64 r.n] (.bool true) (fun j=>zaa (zab en) RL.nil) (fun j=>zaH rfl) (fun w _ _ _=>zpG r hr w),trivial⟩ (zaa (R_rg hr) RL.nil) ht) fun e w' hh=> ?_
  obtain ⟨p,hp,hto,l,hl,j,he⟩:=hh
  have hbel:=zag he (fun _ h=>h)
  unfold rchk_ps at hp
  simp only [List.mem_cons,List.not_mem_nil,or_false] at hp
  have hleaf:p.2=1:=by
    rcases hp with rfl|rfl|rfl|rfl|rfl|rfl|rfl|rfl|rfl|rfl|rfl|rfl|rfl|rfl|rfl|rfl|rfl|rfl|rfl|rfl|rfl|rfl
    all_goals first
      | rfl
      | (exfalso
         simp only [told_cons_iff,told_nil,zbS,zaz,zaP,zcz,zax,den_add,den_mul,zac,en,ed,ev,ec,w1,w2,w3,w4,w5,zdB,decide_eq_true_eq,decide_eq_false_iff_not] at hto
         omega)
  rw [hleaf] at hl
  cases hl
  exact ⟨he.ret,hbel⟩
theorem Tryz.zsE (r:Rg) (h:RgOk r) (i:Int) (hi:0≤i∧i<r.n) (w:World):Calls prog 120 #[r.val,.int .i64 1,.int .i64 i] w fun e w'=>e= .returned (.tuple #[.int .u64 (r.d+16*i),.int .i64 16,.int .i64 0])∧Below w.heap.size w w':=by
 have hb:=h.bnd
 have e1:=zds (is:= [i]) (bs:= []) (vs:= []) h
 have e2:=zdX (is:= [i]) (bs:= []) (vs:= []) h
 have e3:=zer (is:= [i]) (bs:= []) (vs:= []) h
 have e4:=zes (is:= [i]) (bs:= []) (vs:= []) h
 have q1:=h.dE
 have q2:=h.vE
 have q3:=h.cE
 have q4:=h.d0
 have q5:=h.v0
 have q6:=h.c0
 have e5:(ixv 4).den (rho r [i] [] [])=i:=ziX hi.1 (by show i<32768;omega)
 have w1:IntKind.wrap .u64 (16*i)=16*i:=zay (by omega) (by omega)
 have w2:IntKind.wrap .u64 (r.d+16*i)=r.d+16*i:=zay (by omega) (by omega)
 refine Calls.mono (zap (ρ:=(rho r [i] [] [])) (K:=fun _=>False) (g:=Gho.none) (bl:= []) (vals:= [r.val,.int .i64 1,.int .i64 i]) mixed wh1_run wh1_ok (fun _ h=>h.elim) trivial trivial zas ⟨zak (Dw.enters_of (by kernel_rfl)) rfl [r.val] (.int .i64 0) (fun j=>zaa (R_rg h) RL.nil) (fun j=>zab rfl) (fun w _ _ _=>zbB r h w),trivial⟩ (zaa (R_rg h) (zaa (zab rfl) (zaa (zab e5) RL.nil))) (told_cons_iff.2 ⟨by rw [zcz,e5,e1];simp;omega,told_nil.2 trivial⟩)) fun e w' hh=> ?_
 obtain ⟨_,j,he⟩:=za1 hh
 refine ⟨he.ret.trans ?_,zag he (fun _ h=>h)⟩
 simp only [AV.val,AV.valL,den_add,den_mul,zac,e1,e2,e3,e4,e5,w1,w2]
theorem Tryz.zq0 (r:Rg) (h:RgOk r) (w:World):Calls prog 120 #[r.val,.int .i64 2,.int .i64 0] w fun e w'=>e= .returned (.tuple #[.int .u64 (r.v),.int .i64 2,.int .i64 0])∧Below w.heap.size w w':=by
 have hb:=h.bnd
 have e1:=zds (is:= []) (bs:= []) (vs:= []) h
 have e2:=zdX (is:= []) (bs:= []) (vs:= []) h
 have e3:=zer (is:= []) (bs:= []) (vs:= []) h
 have e4:=zes (is:= []) (bs:= []) (vs:= []) h
 have q1:=h.dE
 have q2:=h.vE
 have q3:=h.cE
 have q4:=h.d0
 have q5:=h.v0
 have q6:=h.c0
 refine Calls.mono (zap (ρ:=(rho r [] [] [])) (K:=fun _=>False) (g:=Gho.none) (bl:= []) (vals:= [r.val,.int .i64 2,.int .i64 0]) mixed wh2_run wh2_ok (fun _ h=>h.elim) trivial trivial zas ⟨zak (Dw.enters_of (by kernel_rfl)) rfl [r.val] (.int .i64 0) (fun j=>zaa (R_rg h) RL.nil) (fun j=>zab rfl) (fun w _ _ _=>zbB r h w),trivial⟩ (zaa (R_rg h) (zaa (zab rfl) (zaa (zab rfl) RL.nil))) (told_nil.2 trivial)) fun e w' hh=> ?_
 obtain ⟨_,j,he⟩:=za1 hh
 refine ⟨he.ret.trans ?_,zag he (fun _ h=>h)⟩
 simp only [AV.val,AV.valL,den_add,den_mul,zac,e1,e2,e3,e4]
theorem Tryz.znr (r:Rg) (h:RgOk r) (w:World):Calls prog 120 #[r.val,.int .i64 3,.int .i64 0] w fun e w'=>e= .returned (.tuple #[.int .u64 (r.v+2),.int .i64 2,.int .i64 0])∧Below w.heap.size w w':=by
 have hb:=h.bnd
 have e1:=zds (is:= []) (bs:= []) (vs:= []) h
 have e2:=zdX (is:= []) (bs:= []) (vs:= []) h
 have e3:=zer (is:= []) (bs:= []) (vs:= []) h
 have e4:=zes (is:= []) (bs:= []) (vs:= []) h
 have q1:=h.dE
 have q2:=h.vE
 have q3:=h.cE
 have q4:=h.d0
 have q5:=h.v0
 have q6:=h.c0
 have w2:IntKind.wrap .u64 (r.v+2)=r.v+2:=zay (by omega) (by omega)
 refine Calls.mono (zap (ρ:=(rho r [] [] [])) (K:=fun _=>False) (g:=Gho.none) (bl:= []) (vals:= [r.val,.int .i64 3,.int .i64 0]) mixed wh3_run wh3_ok (fun _ h=>h.elim) trivial trivial zas ⟨zak (Dw.enters_of (by kernel_rfl)) rfl [r.val] (.int .i64 0) (fun j=>zaa (R_rg h) RL.nil) (fun j=>zab rfl) (fun w _ _ _=>zbB r h w),trivial⟩ (zaa (R_rg h) (zaa (zab rfl) (zaa (zab rfl) RL.nil))) (told_nil.2 trivial)) fun e w' hh=> ?_
 obtain ⟨_,j,he⟩:=za1 hh
 refine ⟨he.ret.trans ?_,zag he (fun _ h=>h)⟩
 simp only [AV.val,AV.valL,den_add,den_mul,zac,e1,e2,e3,e4,w2]
theorem Tryz.zqZ (r:Rg) (h:RgOk r) (i:Int) (hi:0≤i∧i<r.n) (w:World):Calls prog 120 #[r.val,.int .i64 4,.int .i64 i] w fun e w'=>e= .returned (.tuple #[.int .u64 (r.v+4+2*i),.int .i64 2,.int .i64 0])∧Below w.heap.size w w':=by
 have hb:=h.bnd
 have e1:=zds (is:= [i]) (bs:= []) (vs:= []) h
 have e2:=zdX (is:= [i]) (bs:= []) (vs:= []) h
 have e3:=zer (is:= [i]) (bs:= []) (vs:= []) h
 have e4:=zes (is:= [i]) (bs:= []) (vs:= []) h
 have q1:=h.dE
 have q2:=h.vE
 have q3:=h.cE
 have q4:=h.d0
 have q5:=h.v0
 have q6:=h.c0
 have e5:(ixv 4).den (rho r [i] [] [])=i:=ziX hi.1 (by show i<32768;omega)
 have w1:IntKind.wrap .u64 (2*i)=2*i:=zay (by omega) (by omega)
 have w3:IntKind.wrap .u64 (r.v+4)=r.v+4:=zay (by omega) (by omega)
 have w2:IntKind.wrap .u64 (r.v+4+2*i)=r.v+4+2*i:=zay (by omega) (by omega)
 refine Calls.mono (zap (ρ:=(rho r [i] [] [])) (K:=fun _=>False) (g:=Gho.none) (bl:= []) (vals:= [r.val,.int .i64 4,.int .i64 i]) mixed wh4_run wh4_ok (fun _ h=>h.elim) trivial trivial zas ⟨zak (Dw.enters_of (by kernel_rfl)) rfl [r.val] (.int .i64 0) (fun j=>zaa (R_rg h) RL.nil) (fun j=>zab rfl) (fun w _ _ _=>zbB r h w),trivial⟩ (zaa (R_rg h) (zaa (zab rfl) (zaa (zab e5) RL.nil))) (told_cons_iff.2 ⟨by rw [zcz,e5,e1];simp;omega,told_nil.2 trivial⟩)) fun e w' hh=> ?_
 obtain ⟨_,j,he⟩:=za1 hh
 refine ⟨he.ret.trans ?_,zag he (fun _ h=>h)⟩
 simp only [AV.val,AV.valL,den_add,den_mul,zac,e1,e2,e3,e4,e5,w1,w3,w2]
theorem Tryz.zqY (r:Rg) (h:RgOk r) (w:World):Calls prog 120 #[r.val,.int .i64 5,.int .i64 0] w fun e w'=>e= .returned (.tuple #[.int .u64 (r.v+4+2*r.n),.int .i64 2,.int .i64 0])∧Below w.heap.size w w':=by
 have hb:=h.bnd
 have e1:=zds (is:= []) (bs:= []) (vs:= []) h
 have e2:=zdX (is:= []) (bs:= []) (vs:= []) h
 have e3:=zer (is:= []) (bs:= []) (vs:= []) h
 have e4:=zes (is:= []) (bs:= []) (vs:= []) h
 have q1:=h.dE
 have q2:=h.vE
 have q3:=h.cE
 have q4:=h.d0
 have q5:=h.v0
 have q6:=h.c0
 have w1:IntKind.wrap .u64 (2*r.n)=2*r.n:=zay (by omega) (by omega)
 have w3:IntKind.wrap .u64 (r.v+4)=r.v+4:=zay (by omega) (by omega)
 have w2:IntKind.wrap .u64 (r.v+4+2*r.n)=r.v+4+2*r.n:=zay (by omega) (by omega)
 refine Calls.mono (zap (ρ:=(rho r [] [] [])) (K:=fun _=>False) (g:=Gho.none) (bl:= []) (vals:= [r.val,.int .i64 5,.int .i64 0]) mixed wh5_run wh5_ok (fun _ h=>h.elim) trivial trivial zas ⟨zak (Dw.enters_of (by kernel_rfl)) rfl [r.val] (.int .i64 0) (fun j=>zaa (R_rg h) RL.nil) (fun j=>zab rfl) (fun w _ _ _=>zbB r h w),trivial⟩ (zaa (R_rg h) (zaa (zab rfl) (zaa (zab rfl) RL.nil))) (told_nil.2 trivial)) fun e w' hh=> ?_
 obtain ⟨_,j,he⟩:=za1 hh
 refine ⟨he.ret.trans ?_,zag he (fun _ h=>h)⟩
 simp only [AV.val,AV.valL,den_add,den_mul,zac,e1,e2,e3,e4,w1,w3,w2]
theorem Tryz.zqX (r:Rg) (h:RgOk r) (w:World):Calls prog 120 #[r.val,.int .i64 7,.int .i64 0] w fun e w'=>e= .returned (.tuple #[.int .u64 (r.c+2),.int .i64 2,.int .i64 0])∧Below w.heap.size w w':=by
 have hb:=h.bnd
 have e1:=zds (is:= []) (bs:= []) (vs:= []) h
 have e2:=zdX (is:= []) (bs:= []) (vs:= []) h
 have e3:=zer (is:= []) (bs:= []) (vs:= []) h
 have e4:=zes (is:= []) (bs:= []) (vs:= []) h
 have q1:=h.dE
 have q2:=h.vE
 have q3:=h.cE
 have q4:=h.d0
 have q5:=h.v0
 have q6:=h.c0
 have w2:IntKind.wrap .u64 (r.c+2)=r.c+2:=zay (by omega) (by omega)
 refine Calls.mono (zap (ρ:=(rho r [] [] [])) (K:=fun _=>False) (g:=Gho.none) (bl:= []) (vals:= [r.val,.int .i64 7,.int .i64 0]) mixed wh7_run wh7_ok (fun _ h=>h.elim) trivial trivial zas ⟨zak (Dw.enters_of (by kernel_rfl)) rfl [r.val] (.int .i64 0) (fun j=>zaa (R_rg h) RL.nil) (fun j=>zab rfl) (fun w _ _ _=>zbB r h w),trivial⟩ (zaa (R_rg h) (zaa (zab rfl) (zaa (zab rfl) RL.nil))) (told_nil.2 trivial)) fun e w' hh=> ?_
 obtain ⟨_,j,he⟩:=za1 hh
 refine ⟨he.ret.trans ?_,zag he (fun _ h=>h)⟩
 simp only [AV.val,AV.valL,den_add,den_mul,zac,e1,e2,e3,e4,w2]
theorem Tryz.zqW (r:Rg) (h:RgOk r) (i:Int) (hi:0≤i∧i<r.n) (w:World):Calls prog 120 #[r.val,.int .i64 8,.int .i64 i] w fun e w'=>e= .returned (.tuple #[.int .u64 (r.c+4+8*i),.int .i64 8,.int .i64 0])∧Below w.heap.size w w':=by
 have hb:=h.bnd
 have e1:=zds (is:= [i]) (bs:= []) (vs:= []) h
 have e2:=zdX (is:= [i]) (bs:= []) (vs:= []) h
 have e3:=zer (is:= [i]) (bs:= []) (vs:= []) h
 have e4:=zes (is:= [i]) (bs:= []) (vs:= []) h
 have q1:=h.dE
 have q2:=h.vE
 have q3:=h.cE
 have q4:=h.d0
 have q5:=h.v0
 have q6:=h.c0
 have e5:(ixv 4).den (rho r [i] [] [])=i:=ziX hi.1 (by show i<32768;omega)
 have w1:IntKind.wrap .u64 (8*i)=8*i:=zay (by omega) (by omega)
 have w3:IntKind.wrap .u64 (r.c+4)=r.c+4:=zay (by omega) (by omega)
 have w2:IntKind.wrap .u64 (r.c+4+8*i)=r.c+4+8*i:=zay (by omega) (by omega)
 refine Calls.mono (zap (ρ:=(rho r [i] [] [])) (K:=fun _=>False) (g:=Gho.none) (bl:= []) (vals:= [r.val,.int .i64 8,.int .i64 i]) mixed wh8_run wh8_ok (fun _ h=>h.elim) trivial trivial zas ⟨zak (Dw.enters_of (by kernel_rfl)) rfl [r.val] (.int .i64 0) (fun j=>zaa (R_rg h) RL.nil) (fun j=>zab rfl) (fun w _ _ _=>zbB r h w),trivial⟩ (zaa (R_rg h) (zaa (zab rfl) (zaa (zab e5) RL.nil))) (told_cons_iff.2 ⟨by rw [zcz,e5,e1];simp;omega,told_nil.2 trivial⟩)) fun e w' hh=> ?_
 obtain ⟨_,j,he⟩:=za1 hh
 refine ⟨he.ret.trans ?_,zag he (fun _ h=>h)⟩
 simp only [AV.val,AV.valL,den_add,den_mul,zac,e1,e2,e3,e4,e5,w1,w3,w2]
theorem Tryz.zqV (r:Rg) (h:RgOk r) (w:World):Calls prog 120 #[r.val,.int .i64 9,.int .i64 0] w fun e w'=>e= .returned (.tuple #[.int .u64 (r.c+4+8*r.n),.int .i64 2,.int .i64 0])∧Below w.heap.size w w':=by
 have hb:=h.bnd
 have e1:=zds (is:= []) (bs:= []) (vs:= []) h
 have e2:=zdX (is:= []) (bs:= []) (vs:= []) h
 have e3:=zer (is:= []) (bs:= []) (vs:= []) h
 have e4:=zes (is:= []) (bs:= []) (vs:= []) h
 have q1:=h.dE
 have q2:=h.vE
 have q3:=h.cE
 have q4:=h.d0
 have q5:=h.v0
 have q6:=h.c0
 have w1:IntKind.wrap .u64 (8*r.n)=8*r.n:=zay (by omega) (by omega)
 have w3:IntKind.wrap .u64 (r.c+4)=r.c+4:=zay (by omega) (by omega)
 have w2:IntKind.wrap .u64 (r.c+4+8*r.n)=r.c+4+8*r.n:=zay (by omega) (by omega)
 refine Calls.mono (zap (ρ:=(rho r [] [] [])) (K:=fun _=>False) (g:=Gho.none) (bl:= []) (vals:= [r.val,.int .i64 9,.int .i64 0]) mixed wh9_run wh9_ok (fun _ h=>h.elim) trivial trivial zas ⟨zak (Dw.enters_of (by kernel_rfl)) rfl [r.val] (.int .i64 0) (fun j=>zaa (R_rg h) RL.nil) (fun j=>zab rfl) (fun w _ _ _=>zbB r h w),trivial⟩ (zaa (R_rg h) (zaa (zab rfl) (zaa (zab rfl) RL.nil))) (told_nil.2 trivial)) fun e w' hh=> ?_
 obtain ⟨_,j,he⟩:=za1 hh
 refine ⟨he.ret.trans ?_,zag he (fun _ h=>h)⟩
 simp only [AV.val,AV.valL,den_add,den_mul,zac,e1,e2,e3,e4,w1,w3,w2]
theorem Tryz.zlQ (r:Rg) (h:RgOk r) (w:World):Calls prog 20 #[r.val,.int .i64 3,.int .i64 0] w fun e w'=>e= .returned (.tuple #[.int .u64 (r.v+2),.int .i64 2,.int .i64 0])∧Below w.heap.size w w':=by
 have hb:=h.bnd
 have e1:=zds (is:= []) (bs:= []) (vs:= []) h
 have e2:=zdX (is:= []) (bs:= []) (vs:= []) h
 have e3:=zer (is:= []) (bs:= []) (vs:= []) h
 have e4:=zes (is:= []) (bs:= []) (vs:= []) h
 have q1:=h.dE
 have q2:=h.vE
 have q3:=h.cE
 have q4:=h.d0
 have q5:=h.v0
 have q6:=h.c0
 have w2:IntKind.wrap .u64 (r.v+2)=r.v+2:=zay (by omega) (by omega)
 refine Calls.mono (zap (ρ:=(rho r [] [] [])) (K:=fun _=>False) (g:=Gho.none) (bl:= []) (vals:= [r.val,.int .i64 3,.int .i64 0]) mixed rwh3_run rwh3_ok (fun _ h=>h.elim) trivial trivial zas ⟨zak (Dw.enters_of (by kernel_rfl)) rfl [r.val] (.int .i64 0) (fun j=>zaa (R_rg h) RL.nil) (fun j=>zab rfl) (fun w _ _ _=>zhQ r h w),trivial⟩ (zaa (R_rg h) (zaa (zab rfl) (zaa (zab rfl) RL.nil))) (told_nil.2 trivial)) fun e w' hh=> ?_
 obtain ⟨_,j,he⟩:=za1 hh
 refine ⟨he.ret.trans ?_,zag he (fun _ h=>h)⟩
 simp only [AV.val,AV.valL,den_add,den_mul,zac,e1,e2,e3,e4,w2]
theorem Tryz.zlP (r:Rg) (h:RgOk r) (i:Int) (hi:0≤i∧i<r.n) (w:World):Calls prog 20 #[r.val,.int .i64 4,.int .i64 i] w fun e w'=>e= .returned (.tuple #[.int .u64 (r.v+4+2*i),.int .i64 2,.int .i64 0])∧Below w.heap.size w w':=by
 have hb:=h.bnd
 have e1:=zds (is:= [i]) (bs:= []) (vs:= []) h
 have e2:=zdX (is:= [i]) (bs:= []) (vs:= []) h
 have e3:=zer (is:= [i]) (bs:= []) (vs:= []) h
 have e4:=zes (is:= [i]) (bs:= []) (vs:= []) h
 have q1:=h.dE
 have q2:=h.vE
 have q3:=h.cE
 have q4:=h.d0
 have q5:=h.v0
 have q6:=h.c0
 have e5:(ixv 4).den (rho r [i] [] [])=i:=ziX hi.1 (by show i<32768;omega)
 have w1:IntKind.wrap .u64 (2*i)=2*i:=zay (by omega) (by omega)
 have w3:IntKind.wrap .u64 (r.v+4)=r.v+4:=zay (by omega) (by omega)
 have w2:IntKind.wrap .u64 (r.v+4+2*i)=r.v+4+2*i:=zay (by omega) (by omega)
 refine Calls.mono (zap (ρ:=(rho r [i] [] [])) (K:=fun _=>False) (g:=Gho.none) (bl:= []) (vals:= [r.val,.int .i64 4,.int .i64 i]) mixed rwh4_run rwh4_ok (fun _ h=>h.elim) trivial trivial zas ⟨zak (Dw.enters_of (by kernel_rfl)) rfl [r.val] (.int .i64 0) (fun j=>zaa (R_rg h) RL.nil) (fun j=>zab rfl) (fun w _ _ _=>zhQ r h w),trivial⟩ (zaa (R_rg h) (zaa (zab rfl) (zaa (zab e5) RL.nil))) (told_cons_iff.2 ⟨by rw [zcz,e5,e1];simp;omega,told_nil.2 trivial⟩)) fun e w' hh=> ?_
 obtain ⟨_,j,he⟩:=za1 hh
 refine ⟨he.ret.trans ?_,zag he (fun _ h=>h)⟩
 simp only [AV.val,AV.valL,den_add,den_mul,zac,e1,e2,e3,e4,e5,w1,w3,w2]
end Go.Proofs
namespace Go.Proofs
open Go.Dw Go.RowKit

structure Tryz.Sg where
 at1:Int
 len:Int
 wr:Bool
deriving DecidableEq
def Tryz.Sg.cells (x:Sg):List Value:= [.int .u64 x.at1,.int .u32 x.len,.bool x.wr]
def Tryz.zaA (l:List Sg):List Value:=l.flatMap Sg.cells
def Tryz.Sg.ok (x:Sg):Prop:=0≤x.at1∧x.at1<18446744073709551616∧0≤x.len∧x.len<4294967296
theorem Tryz.zeP (x:Sg) (r:List Sg):zaA (x::r)= .int .u64 x.at1:: .int .u32 x.len:: .bool x.wr::zaA r:=rfl
theorem Tryz.zcn (l:List Sg):(zaA l).length=3*l.length:=by
 induction l with
 | nil=>rfl
 | cons x r ih=>
  rw [zeP]
  simp only [List.length_cons,ih]
  omega
theorem Tryz.zjr (l:List Sg) (i:Nat) (hi:i<l.length):(zaA l)[3*i]? =some (.int .u64 l[i].at1)∧(zaA l)[3*i+1]? =some (.int .u32 l[i].len)∧(zaA l)[3*i+2]? =some (.bool l[i].wr):=by
 induction l generalizing i with
 | nil=>simp at hi
 | cons x r ih=>
  cases i with
  | zero=>exact ⟨rfl,rfl,rfl⟩
  | succ i=>
   have h:=ih i (by simpa using hi)
   rw [zeP,show 3*(i+1)=3*i+1+1+1 by omega,show 3*i+1+1+1+1=(3*i+1)+1+1+1 by omega,show 3*i+1+1+1+2=(3*i+2)+1+1+1 by omega]
   simp only [List.getElem?_cons_succ,List.getElem_cons_succ]
   exact h
theorem Tryz.zjq (l:List Sg): ∀v∈zaA l,v.oneCell'=true:=fun v hv=>by
 simp only [zaA,List.mem_flatMap,Sg.cells,List.mem_cons,List.not_mem_nil,or_false] at hv
 obtain ⟨x,_,rfl|rfl|rfl⟩:=hv<;>rfl
theorem Tryz.zcm {w:World} {R o:Nat} {l:List Sg} (h:w.rangeAt R o (zaA l)) (k:Nat) (hk:k<l.length):w.rangeAt R (o+3*k) l[k].cells:=fun j v hv=>by
 obtain ⟨h0,h1,h2⟩:=zjr l k hk
 match j,hv with
 | 0,hv=>cases hv;exact h _ _ h0
 | 1,hv=>cases hv;have:=h _ _ h1;rwa [←Nat.add_assoc] at this
 | 2,hv=>cases hv;have:=h _ _ h2;rwa [←Nat.add_assoc] at this
 | j+3,hv=>cases hv
def Tryz.SegV (A:Nat→Prop) (w:World) (v:Value) (l:List Sg):Prop:=
 ∃ (sa:Option Addr) (c:Nat),v= .slice sa l.length c∧(∀x∈l,x.ok)∧(l= []∨ ∃R o,sa=some ⟨R,o,none⟩∧ ¬A R∧w.rangeAt R o (zaA l))
theorem Tryz.zcZ {w:World} {R o:Nat} {l:List Sg} (h:w.rangeAt R o (zaA l)) (h0:l≠ []):R<w.heap.size:=by
 have h1:0<(zaA l).length:=by
  rw [zcn]
  have:=List.length_pos_iff.2 h0
  omega
 exact World.block_lt_of_cell? w ⟨R,o+0,none⟩ (h 0 _ (List.getElem?_eq_getElem h1))
theorem Tryz.SegV.kept {A:Nat→Prop} {w w':World} {v:Value} {l:List Sg} (h:SegV A w v l) (hk: ∀k,k<w.heap.size→ ¬A k→w'.heap[k]? =w.heap[k]?):SegV A w' v l:=by
 obtain ⟨sa,c,rfl,hl,hr⟩:=h
 refine ⟨sa,c,rfl,hl,?_⟩
 rcases hr with h0|⟨R,o,rfl,hn,hr⟩
 ·exact Or.inl h0
 ·by_cases h0:l= []
  ·exact Or.inl h0
  ·exact Or.inr ⟨R,o,rfl,hn,zat hr (hk R (zcZ hr h0) hn)⟩
theorem Tryz.SegV.one {A:Nat→Prop} {w:World} {v:Value} {l:List Sg} (h:SegV A w v l):v.oneCell'=true:=by
 obtain ⟨sa,c,rfl,_⟩:=h
 rfl

def Tryz.zbN (k:Int):List (Int×List Sg)→Option (List Sg)
 | [] => none
 | e::r=>if k=e.1 then some e.2 else zbN k r
def Tryz.zfo (k:Int):List (Int×List Sg)→List (Int×List Sg)
 | [] => []
 | e::r=>if k=e.1 then r else e::zfo k r
structure Tryz.TkW (A:Nat→Prop) (w:World) (M:Nat) (tk:List (Int×List Sg)):Prop where
 map: ∃arr clock,w.heap[M]? =some (.map arr clock)∧(MapWf arr∧Born arr clock)∧ ∀k:Int,(zbN k tk=none→zaU arr k=none)∧ ∀l,zbN k tk=some l→ ∃v,zaU arr k=some v∧SegV A w v l
 keys:(tk.map (·.1)).Nodup
 u16: ∀e∈tk,0≤e.1∧e.1<65536
theorem Tryz.TkW.kept {A:Nat→Prop} {w w':World} {M:Nat} {tk:List (Int×List Sg)} (h:TkW A w M tk) (hM:w'.heap[M]? =w.heap[M]?) (hk: ∀k,k<w.heap.size→ ¬A k→w'.heap[k]? =w.heap[k]?):TkW A w' M tk:=by
 obtain ⟨arr,clock,h1,h2,h3⟩:=h.map
 refine ⟨⟨arr,clock,hM.trans h1,h2,fun k=>⟨(h3 k).1,fun l hl=> ?_⟩⟩,h.keys,h.u16⟩
 obtain ⟨v,h4,h5⟩:=(h3 k).2 l hl
 exact ⟨v,h4,h5.kept hk⟩
theorem Tryz.zgy {k:Int} {l:List Sg}: ∀ {tk:List (Int×List Sg)},zbN k tk=some l→(k,l)∈tk
 | [], h=>by cases h
 | e::r,h=>by
  unfold zbN at h
  split at h
  ·rename_i he;cases h;exact List.mem_cons.2 (.inl (by rw [he]))
  ·exact List.mem_cons_of_mem _ (zgy h)
theorem Tryz.zhJ {k h:Int} {l:List Sg}: ∀ {tk:List (Int×List Sg)},zbN h tk=none→zbN k (tk++ [(h,l)])=if k=h then some l else zbN k tk
 | [], _=>by simp only [List.nil_append,zbN]
 | e::r,hn=>by
  unfold zbN at hn
  split at hn
  ·cases hn
  ·rename_i hne
   simp only [List.cons_append,zbN]
   rw [zhJ hn]
   by_cases hk:k=e.1
   ·rw [if_pos hk,if_neg (fun hh=>hne (by rw [←hh,hk])),if_pos hk]
   ·rw [if_neg hk,if_neg hk]
theorem Tryz.tkGet_notin {k:Int}: ∀ {tk:List (Int×List Sg)},zbN k tk=none↔k∉tk.map (·.1)
 | [] => by simp [zbN]
 | e::r=>by
  unfold zbN
  by_cases h:k=e.1
  ·simp [h]
  ·rw [if_neg h,tkGet_notin (tk:=r)]
   simp [h]
theorem Tryz.zd4 (k:Int): ∀(tk:List (Int×List Sg)),(zfo k tk).Sublist tk
 | [] => List.Sublist.refl _
 | e::r=>by
  unfold zfo
  split
  ·exact List.sublist_cons_self ..
  ·exact (zd4 k r).cons_cons _
theorem Tryz.zja {k h:Int}: ∀ {tk:List (Int×List Sg)},(tk.map (·.1)).Nodup→zbN k (zfo h tk)=if k=h then none else zbN k tk
 | [], _=>by simp [zfo,zbN]
 | e::r,hn=>by
  rw [List.map_cons,List.nodup_cons] at hn
  unfold zfo
  by_cases hh:h=e.1
  ·rw [if_pos hh]
   by_cases hk:k=h
   ·rw [if_pos hk]
    exact tkGet_notin.2 (by rw [hk,hh];exact hn.1)
   ·rw [if_neg hk]
    unfold zbN
    rw [if_neg (fun e'=>hk (e'.trans hh.symm))]
    cases r<;>simp only [zbN]
  ·rw [if_neg hh]
   unfold zbN
   rw [zja hn.2]
   by_cases hk:k=e.1
   ·rw [if_pos hk,if_pos hk,if_neg (fun e'=>hh (e'.symm.trans hk))]
   ·rw [if_neg hk,if_neg hk]

structure Tryz.SS where
 ev:Bool
 tb:Bool
 pk:Bool
 nx:Int
 us:Int
 tk:List (Int×List Sg)
 ph:Nat
 op:Int
 nn:Bool
 hd:Int
 sg:List Sg
 wr:Int
 it:Bool
 dn:Bool
 br:Bool
def Tryz.SS.row (s:SS) (r:Rg) (P M:Nat) (nv sv:Value):List Value:=
 [.pointer (some ⟨P,0,.none⟩),.bool false,.int .i64 r.n,.int .u64 r.d,.int .u64 r.v,.int .u64 r.c,.bool s.ev,.bool s.tb,.bool s.pk,.int .u16 s.nx,.int .u16 s.us,.map (some M),nv,
  .int .i64 s.op,.bool s.nn,.int .i64 s.hd,sv,.int .u32 s.wr,.bool s.it,.bool s.dn,.bool s.br]
def Tryz.zf6 (S fn:Nat):Value:= .func (.func fn) #[.pointer (some ⟨S,0,none⟩)] #[]
def Tryz.sFn (ph:Nat):Option Nat:=
 match ph with
 | 1=>some 55|2=>some 84|4=>some 114|6=>some 83|7=>some 113
 | 11=>some 61|13=>some 89|15=>some 119
 | _=>none
def Tryz.znJ (ph:Nat):Option Nat:=
 match ph with
 | 3=>some 114|5=>some 83|12=>some 89|14=>some 119
 | _=>none
inductive Tryz.NextOk (A:Nat→Prop) (w:World) (S:Nat) (ph:Nat) (v:Value):Prop where
 | idle (h:ph=0) (hv:v= .nilFunc)
 | meth (f:Nat) (h:sFn ph=some f) (hv:v=zf6 S f)
 | fence (f X Y:Nat) (h:znJ ph=some f) (hv:v= .func (.func 112) #[] #[.pointer (some ⟨X,0,none⟩),.pointer (some ⟨Y,0,none⟩)])
   (hX:Row w ⟨X,0,0,none⟩ [zf6 S f]) (hY:Row w ⟨Y,0,0,none⟩ [.pointer (some ⟨S,0,none⟩)]) (aX: ¬A X) (aY: ¬A Y)
theorem Tryz.zeW {w:World} {L:Dw.Loc} {vals:List Value} (h:Row w L vals):L.blk<w.heap.size:=by
 obtain ⟨arr,e,fr,h1,_⟩:=h
 exact (Array.getElem?_eq_some_iff.1 h1).1
theorem Tryz.NextOk.kept {A:Nat→Prop} {w w':World} {S ph:Nat} {v:Value} (h:NextOk A w S ph v) (hk: ∀k,k<w.heap.size→ ¬A k→w'.heap[k]? =w.heap[k]?):NextOk A w' S ph v:=by
 cases h with
 | idle h hv=>exact .idle h hv
 | meth f h hv=>exact .meth f h hv
 | fence f X Y h hv hX hY aX aY=>exact .fence f X Y h hv (hX.kept (hk X (zeW hX) aX)) (hY.kept (hk Y (zeW hY) aY)) aX aY
structure Tryz.SrvW (A:Nat→Prop) (w:World) (S P M:Nat) (r:Rg) (s:SS):Prop where
 obj: ∃nv sv,Own w S (s.row r P M nv sv)∧NextOk A w S s.ph nv∧SegV A w sv s.sg
 tk:TkW A w M s.tk
 ne:S≠M
 aS:A S
 aM:A M
 rg:RgOk r
 nx:0≤s.nx∧s.nx<65536
 us:0≤s.us∧s.us<65536
 hd:0≤s.hd∧s.hd<65536
 wr:0≤s.wr∧s.wr<4294967296
theorem Tryz.SrvW.kept {A:Nat→Prop} {w w':World} {S P M:Nat} {r:Rg} {s:SS} (h:SrvW A w S P M r s) (hS:w'.heap[S]? =w.heap[S]?) (hM:w'.heap[M]? =w.heap[M]?) (hk: ∀k,k<w.heap.size→ ¬A k→w'.heap[k]? =w.heap[k]?):SrvW A w' S P M r s:=by
 obtain ⟨nv,sv,h1,h2,h3⟩:=h.obj
 exact ⟨⟨nv,sv,h1.kept hS,h2.kept hk,h3.kept hk⟩,h.tk.kept hM hk,h.ne,h.aS,h.aM,h.rg,h.nx,h.us,h.hd,h.wr⟩
theorem Tryz.SrvW.ltS {A:Nat→Prop} {w:World} {S P M:Nat} {r:Rg} {s:SS} (h:SrvW A w S P M r s):S<w.heap.size:=by
 obtain ⟨nv,sv,h1,_⟩:=h.obj
 exact zdK h1
theorem Tryz.SrvW.ltM {A:Nat→Prop} {w:World} {S P M:Nat} {r:Rg} {s:SS} (h:SrvW A w S P M r s):M<w.heap.size:=by
 obtain ⟨arr,clock,h1,_⟩:=h.tk.map
 exact (Array.getElem?_eq_some_iff.1 h1).1
end Go.Proofs
namespace Go.Proofs
open Go.Dw Go.RowKit

def Tryz.srow (next:AV) (dn br:SB):List AV:=
  [.cst 0 none,.bool (.lit false),.int .i64 (szv 0),.int .u64 (u64v 1),.int .u64 (u64v 2),.int .u64 (u64v 3),.bool (.var 0),.bool (.var 1),.bool (.var 2),.int .u16 (u16v 4),.int .u16 (u16v 5),.map 2,next,
   .int .i64 (.var 6),.bool (.var 3),.int .i64 (u16v 7),.cst 1 none,.int .u32 (u32v 8),.bool (.var 4),.bool dn,.bool br]
def Tryz.zeK (what:Int) (i:SE) (wide:Int):Ent:=⟨120,[rg,.int .i64 (.lit what),.int .i64 i],0,0,0,.tup [.int .u64 (u64v 10),.int .i64 (.lit wide),.int .i64 (.lit 0)],0⟩
def Tryz.loadE:Ent:=⟨21,[.cst 0 none,.int .u64 (u64v 10),.int .i64 (.lit 2)],0,0,0,.tup [.int .u64 (u16v 11),.int .i64 (.lit 0)],0⟩
def Tryz.zlL (wide:Int) (v:SE):Ent:=⟨26,[.cst 0 none,.int .u64 (u64v 10),.int .i64 (.lit wide),.int .u64 v],0,0,0,.int .i64 (.lit 0),1⟩
def Tryz.zez (f:Nat):AV:= .func f [.ptr 1 0] []
def Tryz.shs (next:AV):List Sh:= [.own (srow next (.var 5) (.lit false)),.mapx []]
def Tryz.shsF (f:Nat):List Sh:= [.own (srow (.func 112 [] [.ptr 3 0,.ptr 4 0]) (.var 5) (.lit false)),.mapx [],.ro [zez f],.ro [.ptr 1 0]]
def Tryz.shsK (next:AV) (k:AV) (v:Option AV):List Sh:= [.own (srow next (.var 5) (.lit false)),.mapx [(k,v)]]
def Tryz.zlM (e:SE):Ent:=⟨128,[.cst 0 none,rg,.int .i64 (u16v 7),.bool (.var 1)],0,6,1,.tup [.opq 6 none,.int .i64 e],1⟩
def Tryz.clonesE:Ent:=⟨57,[.opq 6 none],1,7,1,.opq 7 none,2⟩
end Go.Proofs
namespace Go.Proofs
open Go.Dw

def Tryz.slook_ents:List Ent:= [zeK 3 (.lit 0) 2,loadE]
def Tryz.slook_shs:List Sh:=shs (zez 55)
def Tryz.slook_args:List AV:= [.ptr 1 0]
def Tryz.slook_asm:List (SB×Bool):= []
def Tryz.slook_ls:List Leaf:= [
 ⟨.tup [.agg [.int .i64 (.lit 2),.int .i64 (.lit 3),.int .i64 (.lit 0)],.int .i64 (.lit 4)],[(1,[.cst 0 none,.bool (.lit false),.int .i64 (szv 0),.int .u64 (u64v 1),.int .u64 (u64v 2),.int .u64 (u64v 3),.bool (.var 0),.bool (.var 1),.bool (.var 2),.int .u16 (u16v 4),.int .u16 (u16v 5),.map 2,.nilf,.int .i64 (.lit 0),.bool (.lit false),.int .i64 (.lit 0),.nils,.int .u32 (.lit 0),.bool (.lit false),.bool (.var 5),.bool (.lit true)])],[(2,[])],0,[1]⟩,
 ⟨.tup [.agg [.int .i64 (.lit 2),.int .i64 (.lit 3),.int .i64 (.lit 0)],.int .i64 (.lit 0)],[(1,[.cst 0 none,.bool (.lit false),.int .i64 (szv 0),.int .u64 (u64v 1),.int .u64 (u64v 2),.int .u64 (u64v 3),.bool (.var 0),.bool (.var 1),.bool (.var 2),.int .u16 (u16v 4),.int .u16 (u16v 5),.map 2,.func 112 [] [.ptr 10 0,.ptr 9 0],.int .i64 (.var 6),.bool (.var 3),.int .i64 (u16v 7),.cst 1 none,.int .u32 (u32v 8),.bool (.var 4),.bool (.lit false),.bool (.lit false)]),(9,[.ptr 1 0]),(10,[.func 83 [.ptr 1 0] []])],[(2,[])],0,[1,9,10]⟩,
 ⟨.tup [.agg [.int .i64 (.lit 2),.int .i64 (.lit 3),.int .i64 (.lit 0)],.int .i64 (.lit 0)],[(1,[.cst 0 none,.bool (.lit false),.int .i64 (szv 0),.int .u64 (u64v 1),.int .u64 (u64v 2),.int .u64 (u64v 3),.bool (.var 0),.bool (.var 1),.bool (.var 2),.int .u16 (u16v 4),.int .u16 (u16v 5),.map 2,.func 84 [.ptr 1 0] [],.int .i64 (.var 6),.bool (.var 3),.int .i64 (u16v 7),.cst 1 none,.int .u32 (u32v 8),.bool (.var 4),.bool (.lit false),.bool (.lit false)])],[(2,[])],0,[1]⟩,
 ⟨.tup [.agg [.int .i64 (.lit 2),.int .i64 (.lit 3),.int .i64 (.lit 0)],.int .i64 (.lit 0)],[(1,[.cst 0 none,.bool (.lit false),.int .i64 (szv 0),.int .u64 (u64v 1),.int .u64 (u64v 2),.int .u64 (u64v 3),.bool (.var 0),.bool (.var 1),.bool (.var 2),.int .u16 (u16v 4),.int .u16 (u16v 5),.map 2,.nilf,.int .i64 (.var 6),.bool (.lit true),.int .i64 (u16v 7),.cst 1 none,.int .u32 (u32v 8),.bool (.var 4),.bool (.lit true),.bool (.lit false)])],[(2,[])],0,[1]⟩]
def Tryz.slook_ps:List (List (SB×Bool)×Nat):= [
 ([((.cmp .gtr (.bin .sub .u16 (u16v 11) (u16v 4)) (.lit 0)),true),((.cmp .leq (.bin .sub .u16 (u16v 11) (u16v 4)) (szv 0)),false)],0),
 ([((.cmp .gtr (.bin .sub .u16 (u16v 11) (u16v 4)) (.lit 0)),true),((.cmp .leq (.bin .sub .u16 (u16v 11) (u16v 4)) (szv 0)),true)],1),
 ([((.cmp .gtr (.bin .sub .u16 (u16v 11) (u16v 4)) (.lit 0)),false),(.var 0,true),((.cmp .leq (.bin .sub .u16 (u16v 11) (u16v 4)) (szv 0)),false)],0),
 ([((.cmp .gtr (.bin .sub .u16 (u16v 11) (u16v 4)) (.lit 0)),false),(.var 0,true),((.cmp .leq (.bin .sub .u16 (u16v 11) (u16v 4)) (szv 0)),true)],2),
 ([((.cmp .gtr (.bin .sub .u16 (u16v 11) (u16v 4)) (.lit 0)),false),(.var 0,false),((.cmp .leq (.bin .sub .u16 (u16v 11) (u16v 4)) (szv 0)),false)],0),
 ([((.cmp .gtr (.bin .sub .u16 (u16v 11) (u16v 4)) (.lit 0)),false),(.var 0,false),((.cmp .leq (.bin .sub .u16 (u16v 11) (u16v 4)) (szv 0)),true)],3)]
theorem Tryz.slook_run:(ev prog (entOrc slook_ents) 100000 (.call 28 slook_args (zaj 0 slook_shs) (leafAt slook_ls 0))).ways slook_asm=some slook_ps:=by kernel_rfl
theorem Tryz.slook_ok:(shsSmall slook_shs&&entsSmall slook_ents&&AV.smallL slook_args&&leavesExact slook_ls)=true:=by kernel_rfl

def Tryz.sevent_ents:List Ent:= [zeK 9 (.lit 0) 2,zlL 2 (u16v 4)]
def Tryz.sevent_shs:List Sh:=shs (zez 84)
def Tryz.sevent_args:List AV:= [.ptr 1 0]
def Tryz.sevent_asm:List (SB×Bool):= []
def Tryz.sevent_ls:List Leaf:= [
 ⟨.tup [.agg [.int .i64 (.lit 3),.int .i64 (.lit 9),.int .i64 (.lit 0)],.int .i64 (.lit 0)],[(1,[.cst 0 none,.bool (.lit false),.int .i64 (szv 0),.int .u64 (u64v 1),.int .u64 (u64v 2),.int .u64 (u64v 3),.bool (.var 0),.bool (.var 1),.bool (.var 2),.int .u16 (u16v 4),.int .u16 (u16v 5),.map 2,.func 112 [] [.ptr 6 0,.ptr 5 0],.int .i64 (.var 6),.bool (.var 3),.int .i64 (u16v 7),.cst 1 none,.int .u32 (u32v 8),.bool (.var 4),.bool (.lit false),.bool (.lit false)]),(5,[.ptr 1 0]),(6,[.func 114 [.ptr 1 0] []])],[(2,[])],1,[1,5,6]⟩]
def Tryz.sevent_ps:List (List (SB×Bool)×Nat):= [
 ([], 0)]
theorem Tryz.sevent_run:(ev prog (entOrc sevent_ents) 100000 (.call 28 sevent_args (zaj 0 sevent_shs) (leafAt sevent_ls 0))).ways sevent_asm=some sevent_ps:=by kernel_rfl
theorem Tryz.sevent_ok:(shsSmall sevent_shs&&entsSmall sevent_ents&&AV.smallL sevent_args&&leavesExact sevent_ls)=true:=by kernel_rfl

def Tryz.sfence3_ents:List Ent:= []
def Tryz.sfence3_shs:List Sh:=shsF 114
def Tryz.sfence3_args:List AV:= [.ptr 1 0]
def Tryz.sfence3_asm:List (SB×Bool):= []
def Tryz.sfence3_ls:List Leaf:= [
 ⟨.tup [.agg [.int .i64 (.lit 4),.int .i64 (.lit 0),.int .i64 (.lit 0)],.int .i64 (.lit 0)],[(1,[.cst 0 none,.bool (.lit false),.int .i64 (szv 0),.int .u64 (u64v 1),.int .u64 (u64v 2),.int .u64 (u64v 3),.bool (.var 0),.bool (.var 1),.bool (.var 2),.int .u16 (u16v 4),.int .u16 (u16v 5),.map 2,.func 114 [.ptr 1 0] [],.int .i64 (.var 6),.bool (.var 3),.int .i64 (u16v 7),.cst 1 none,.int .u32 (u32v 8),.bool (.var 4),.bool (.lit false),.bool (.lit false)])],[(2,[])],0,[1]⟩]
def Tryz.sfence3_ps:List (List (SB×Bool)×Nat):= [
 ([], 0)]
theorem Tryz.sfence3_run:(ev prog (entOrc sfence3_ents) 100000 (.call 28 sfence3_args (zaj 0 sfence3_shs) (leafAt sfence3_ls 0))).ways sfence3_asm=some sfence3_ps:=by kernel_rfl
theorem Tryz.sfence3_ok:(shsSmall sfence3_shs&&entsSmall sfence3_ents&&AV.smallL sfence3_args&&leavesExact sfence3_ls)=true:=by kernel_rfl

def Tryz.sagain_ents:List Ent:= [zeK 3 (.lit 0) 2,loadE]
def Tryz.sagain_shs:List Sh:=shs (zez 114)
def Tryz.sagain_args:List AV:= [.ptr 1 0]
def Tryz.sagain_asm:List (SB×Bool):= []
def Tryz.sagain_ls:List Leaf:= [
 ⟨.tup [.agg [.int .i64 (.lit 2),.int .i64 (.lit 3),.int .i64 (.lit 0)],.int .i64 (.lit 4)],[(1,[.cst 0 none,.bool (.lit false),.int .i64 (szv 0),.int .u64 (u64v 1),.int .u64 (u64v 2),.int .u64 (u64v 3),.bool (.var 0),.bool (.var 1),.bool (.var 2),.int .u16 (u16v 4),.int .u16 (u16v 5),.map 2,.nilf,.int .i64 (.lit 0),.bool (.lit false),.int .i64 (.lit 0),.nils,.int .u32 (.lit 0),.bool (.lit false),.bool (.var 5),.bool (.lit true)])],[(2,[])],0,[1]⟩,
 ⟨.tup [.agg [.int .i64 (.lit 2),.int .i64 (.lit 3),.int .i64 (.lit 0)],.int .i64 (.lit 0)],[(1,[.cst 0 none,.bool (.lit false),.int .i64 (szv 0),.int .u64 (u64v 1),.int .u64 (u64v 2),.int .u64 (u64v 3),.bool (.var 0),.bool (.var 1),.bool (.var 2),.int .u16 (u16v 4),.int .u16 (u16v 5),.map 2,.func 112 [] [.ptr 10 0,.ptr 9 0],.int .i64 (.var 6),.bool (.var 3),.int .i64 (u16v 7),.cst 1 none,.int .u32 (u32v 8),.bool (.var 4),.bool (.lit false),.bool (.lit false)]),(9,[.ptr 1 0]),(10,[.func 83 [.ptr 1 0] []])],[(2,[])],0,[1,9,10]⟩,
 ⟨.tup [.agg [.int .i64 (.lit 2),.int .i64 (.lit 3),.int .i64 (.lit 0)],.int .i64 (.lit 0)],[(1,[.cst 0 none,.bool (.lit false),.int .i64 (szv 0),.int .u64 (u64v 1),.int .u64 (u64v 2),.int .u64 (u64v 3),.bool (.var 0),.bool (.var 1),.bool (.var 2),.int .u16 (u16v 4),.int .u16 (u16v 5),.map 2,.nilf,.int .i64 (.var 6),.bool (.lit true),.int .i64 (u16v 7),.cst 1 none,.int .u32 (u32v 8),.bool (.var 4),.bool (.lit true),.bool (.lit false)])],[(2,[])],0,[1]⟩]
def Tryz.sagain_ps:List (List (SB×Bool)×Nat):= [
 ([((.cmp .gtr (.bin .sub .u16 (u16v 11) (u16v 4)) (.lit 0)),true),((.cmp .leq (.bin .sub .u16 (u16v 11) (u16v 4)) (szv 0)),false)],0),
 ([((.cmp .gtr (.bin .sub .u16 (u16v 11) (u16v 4)) (.lit 0)),true),((.cmp .leq (.bin .sub .u16 (u16v 11) (u16v 4)) (szv 0)),true)],1),
 ([((.cmp .gtr (.bin .sub .u16 (u16v 11) (u16v 4)) (.lit 0)),false),((.cmp .leq (.bin .sub .u16 (u16v 11) (u16v 4)) (szv 0)),false)],0),
 ([((.cmp .gtr (.bin .sub .u16 (u16v 11) (u16v 4)) (.lit 0)),false),((.cmp .leq (.bin .sub .u16 (u16v 11) (u16v 4)) (szv 0)),true)],2)]
theorem Tryz.sagain_run:(ev prog (entOrc sagain_ents) 100000 (.call 28 sagain_args (zaj 0 sagain_shs) (leafAt sagain_ls 0))).ways sagain_asm=some sagain_ps:=by kernel_rfl
theorem Tryz.sagain_ok:(shsSmall sagain_shs&&entsSmall sagain_ents&&AV.smallL sagain_args&&leavesExact sagain_ls)=true:=by kernel_rfl

def Tryz.sfence5_ents:List Ent:= []
def Tryz.sfence5_shs:List Sh:=shsF 83
def Tryz.sfence5_args:List AV:= [.ptr 1 0]
def Tryz.sfence5_asm:List (SB×Bool):= []
def Tryz.sfence5_ls:List Leaf:= [
 ⟨.tup [.agg [.int .i64 (.lit 4),.int .i64 (.lit 0),.int .i64 (.lit 0)],.int .i64 (.lit 0)],[(1,[.cst 0 none,.bool (.lit false),.int .i64 (szv 0),.int .u64 (u64v 1),.int .u64 (u64v 2),.int .u64 (u64v 3),.bool (.var 0),.bool (.var 1),.bool (.var 2),.int .u16 (u16v 4),.int .u16 (u16v 5),.map 2,.func 83 [.ptr 1 0] [],.int .i64 (.var 6),.bool (.var 3),.int .i64 (u16v 7),.cst 1 none,.int .u32 (u32v 8),.bool (.var 4),.bool (.lit false),.bool (.lit false)])],[(2,[])],0,[1]⟩]
def Tryz.sfence5_ps:List (List (SB×Bool)×Nat):= [
 ([], 0)]
theorem Tryz.sfence5_run:(ev prog (entOrc sfence5_ents) 100000 (.call 28 sfence5_args (zaj 0 sfence5_shs) (leafAt sfence5_ls 0))).ways sfence5_asm=some sfence5_ps:=by kernel_rfl
theorem Tryz.sfence5_ok:(shsSmall sfence5_shs&&entsSmall sfence5_ents&&AV.smallL sfence5_args&&leavesExact sfence5_ls)=true:=by kernel_rfl

def Tryz.sring_ents:List Ent:= [zeK 4 (.bin .rem .i64 (u16v 4) (szv 0)) 2,loadE]
def Tryz.sring_shs:List Sh:=shs (zez 83)
def Tryz.sring_args:List AV:= [.ptr 1 0]
def Tryz.sring_asm:List (SB×Bool):= []
def Tryz.sring_ls:List Leaf:= [
 ⟨.tup [.agg [.int .i64 (.lit 2),.int .i64 (.lit 4),.int .i64 (.bin .rem .i64 (u16v 4) (szv 0))],.int .i64 (.lit 0)],[(1,[.cst 0 none,.bool (.lit false),.int .i64 (szv 0),.int .u64 (u64v 1),.int .u64 (u64v 2),.int .u64 (u64v 3),.bool (.var 0),.bool (.var 1),.bool (.var 2),.int .u16 (u16v 4),.int .u16 (u16v 5),.map 2,.func 113 [.ptr 1 0] [],.int .i64 (.var 6),.bool (.var 3),.int .i64 (u16v 11),.cst 1 none,.int .u32 (u32v 8),.bool (.var 4),.bool (.lit false),.bool (.lit false)])],[(2,[])],0,[1]⟩]
def Tryz.sring_ps:List (List (SB×Bool)×Nat):= [
 ([], 0)]
theorem Tryz.sring_run:(ev prog (entOrc sring_ents) 100000 (.call 28 sring_args (zaj 0 sring_shs) (leafAt sring_ls 0))).ways sring_asm=some sring_ps:=by kernel_rfl
theorem Tryz.sring_ok:(shsSmall sring_shs&&entsSmall sring_ents&&AV.smallL sring_args&&leavesExact sring_ls)=true:=by kernel_rfl

def Tryz.schain_ents:List Ent:= [zlM (.lit 0),clonesE]
def Tryz.schain_shs:List Sh:=shsK (zez 113) (.int .i64 (u16v 7)) none
def Tryz.schain_args:List AV:= [.ptr 1 0]
def Tryz.schain_asm:List (SB×Bool):= []
def Tryz.schain_ls:List Leaf:= [
 ⟨.tup [.agg [.int .i64 (.lit 1),.int .i64 (.lit 0),.int .i64 (.lit 0)],.int .i64 (.lit 0)],[(1,[.cst 0 none,.bool (.lit false),.int .i64 (szv 0),.int .u64 (u64v 1),.int .u64 (u64v 2),.int .u64 (u64v 3),.bool (.var 0),.bool (.var 1),.bool (.var 2),.int .u16 (.bin .add .u16 (u16v 4) (.lit 1)),.int .u16 (u16v 5),.map 2,.nilf,.int .i64 (.var 6),.bool (.var 3),.int .i64 (u16v 7),.opq 7 none,.int .u32 (u32v 8),.bool (.var 4),.bool (.lit true),.bool (.lit false)])],[(2,[(.int .i64 (u16v 7),some (.opq 6 none)),(.int .i64 (u16v 7),some (.nils))])],2,[1]⟩]
def Tryz.schain_ps:List (List (SB×Bool)×Nat):= [
 ([], 0)]
theorem Tryz.schain_run:(ev prog (entOrc schain_ents) 100000 (.call 28 schain_args (zaj 0 schain_shs) (leafAt schain_ls 0))).ways schain_asm=some schain_ps:=by kernel_rfl
theorem Tryz.schain_ok:(shsSmall schain_shs&&entsSmall schain_ents&&AV.smallL schain_args&&leavesExact schain_ls)=true:=by kernel_rfl

def Tryz.schainE_ents:List Ent:= [zlM (.var 11)]
def Tryz.schainE_shs:List Sh:=shsK (zez 113) (.int .i64 (u16v 7)) none
def Tryz.schainE_args:List AV:= [.ptr 1 0]
def Tryz.schainE_asm:List (SB×Bool):= [(.cmp .neq (.var 11) (.lit 0),true)]
def Tryz.schainE_ls:List Leaf:= [
 ⟨.tup [.agg [.int .i64 (.lit 1),.int .i64 (.lit 0),.int .i64 (.lit 0)],.int .i64 (.lit 4)],[(1,[.cst 0 none,.bool (.lit false),.int .i64 (szv 0),.int .u64 (u64v 1),.int .u64 (u64v 2),.int .u64 (u64v 3),.bool (.var 0),.bool (.var 1),.bool (.var 2),.int .u16 (u16v 4),.int .u16 (u16v 5),.map 2,.nilf,.int .i64 (.lit 0),.bool (.lit false),.int .i64 (.lit 0),.nils,.int .u32 (.lit 0),.bool (.lit false),.bool (.var 5),.bool (.lit true)])],[(2,[])],1,[1]⟩]
def Tryz.schainE_ps:List (List (SB×Bool)×Nat):= [
 ([], 0)]
theorem Tryz.schainE_run:(ev prog (entOrc schainE_ents) 100000 (.call 28 schainE_args (zaj 0 schainE_shs) (leafAt schainE_ls 0))).ways schainE_asm=some schainE_ps:=by kernel_rfl
theorem Tryz.schainE_ok:(shsSmall schainE_shs&&entsSmall schainE_ents&&AV.smallL schainE_args&&leavesExact schainE_ls)=true:=by kernel_rfl

def Tryz.schainT_ents:List Ent:= [zlM (.var 11)]
def Tryz.schainT_shs:List Sh:=shsK (zez 113) (.int .i64 (u16v 7)) (some (.cst 2 none))
def Tryz.schainT_args:List AV:= [.ptr 1 0]
def Tryz.schainT_asm:List (SB×Bool):= []
def Tryz.schainT_ls:List Leaf:= [
 ⟨.tup [.agg [.int .i64 (.lit 1),.int .i64 (.lit 0),.int .i64 (.lit 0)],.int .i64 (.lit 4)],[(1,[.cst 0 none,.bool (.lit false),.int .i64 (szv 0),.int .u64 (u64v 1),.int .u64 (u64v 2),.int .u64 (u64v 3),.bool (.var 0),.bool (.var 1),.bool (.var 2),.int .u16 (u16v 4),.int .u16 (u16v 5),.map 2,.nilf,.int .i64 (.lit 0),.bool (.lit false),.int .i64 (.lit 0),.nils,.int .u32 (.lit 0),.bool (.lit false),.bool (.var 5),.bool (.lit true)])],[(2,[])],1,[1]⟩]
def Tryz.schainT_ps:List (List (SB×Bool)×Nat):= [
 ([((.cmp .neq (.var 11) (.lit 0)),true)],0),
 ([((.cmp .neq (.var 11) (.lit 0)),false)],0)]
theorem Tryz.schainT_run:(ev prog (entOrc schainT_ents) 100000 (.call 28 schainT_args (zaj 0 schainT_shs) (leafAt schainT_ls 0))).ways schainT_asm=some schainT_ps:=by kernel_rfl
theorem Tryz.schainT_ok:(shsSmall schainT_shs&&entsSmall schainT_ents&&AV.smallL schainT_args&&leavesExact schainT_ls)=true:=by kernel_rfl

def Tryz.selement_ents:List Ent:= [zeK 8 (.bin .rem .i64 (u16v 5) (szv 0)) 8,zlL 8 (.flds [⟨7,0,65535,0,16,0⟩,⟨8,0,4294967295,0,32,32⟩] 0)]
def Tryz.selement_shs:List Sh:=shs (zez 61)
def Tryz.selement_args:List AV:= [.ptr 1 0]
def Tryz.selement_asm:List (SB×Bool):= []
def Tryz.selement_ls:List Leaf:= [
 ⟨.tup [.agg [.int .i64 (.lit 3),.int .i64 (.lit 8),.int .i64 (.bin .rem .i64 (u16v 5) (szv 0))],.int .i64 (.lit 0)],[(1,[.cst 0 none,.bool (.lit false),.int .i64 (szv 0),.int .u64 (u64v 1),.int .u64 (u64v 2),.int .u64 (u64v 3),.bool (.var 0),.bool (.var 1),.bool (.var 2),.int .u16 (u16v 4),.int .u16 (u16v 5),.map 2,.func 112 [] [.ptr 6 0,.ptr 5 0],.int .i64 (.var 6),.bool (.var 3),.int .i64 (u16v 7),.cst 1 none,.int .u32 (u32v 8),.bool (.var 4),.bool (.lit false),.bool (.lit false)]),(5,[.ptr 1 0]),(6,[.func 89 [.ptr 1 0] []])],[(2,[])],1,[1,5,6]⟩]
def Tryz.selement_ps:List (List (SB×Bool)×Nat):= [
 ([], 0)]
theorem Tryz.selement_run:(ev prog (entOrc selement_ents) 100000 (.call 28 selement_args (zaj 0 selement_shs) (leafAt selement_ls 0))).ways selement_asm=some selement_ps:=by kernel_rfl
theorem Tryz.selement_ok:(shsSmall selement_shs&&entsSmall selement_ents&&AV.smallL selement_args&&leavesExact selement_ls)=true:=by kernel_rfl

def Tryz.sfence12_ents:List Ent:= []
def Tryz.sfence12_shs:List Sh:=shsF 89
def Tryz.sfence12_args:List AV:= [.ptr 1 0]
def Tryz.sfence12_asm:List (SB×Bool):= []
def Tryz.sfence12_ls:List Leaf:= [
 ⟨.tup [.agg [.int .i64 (.lit 4),.int .i64 (.lit 0),.int .i64 (.lit 0)],.int .i64 (.lit 0)],[(1,[.cst 0 none,.bool (.lit false),.int .i64 (szv 0),.int .u64 (u64v 1),.int .u64 (u64v 2),.int .u64 (u64v 3),.bool (.var 0),.bool (.var 1),.bool (.var 2),.int .u16 (u16v 4),.int .u16 (u16v 5),.map 2,.func 89 [.ptr 1 0] [],.int .i64 (.var 6),.bool (.var 3),.int .i64 (u16v 7),.cst 1 none,.int .u32 (u32v 8),.bool (.var 4),.bool (.lit false),.bool (.lit false)])],[(2,[])],0,[1]⟩]
def Tryz.sfence12_ps:List (List (SB×Bool)×Nat):= [
 ([], 0)]
theorem Tryz.sfence12_run:(ev prog (entOrc sfence12_ents) 100000 (.call 28 sfence12_args (zaj 0 sfence12_shs) (leafAt sfence12_ls 0))).ways sfence12_asm=some sfence12_ps:=by kernel_rfl
theorem Tryz.sfence12_ok:(shsSmall sfence12_shs&&entsSmall sfence12_ents&&AV.smallL sfence12_args&&leavesExact sfence12_ls)=true:=by kernel_rfl

def Tryz.sindex_ents:List Ent:= [zeK 7 (.lit 0) 2,zlL 2 (.bin .add .u16 (u16v 5) (.lit 1))]
def Tryz.sindex_shs:List Sh:=shs (zez 89)
def Tryz.sindex_args:List AV:= [.ptr 1 0]
def Tryz.sindex_asm:List (SB×Bool):= []
def Tryz.sindex_ls:List Leaf:= [
 ⟨.tup [.agg [.int .i64 (.lit 3),.int .i64 (.lit 7),.int .i64 (.lit 0)],.int .i64 (.lit 0)],[(1,[.cst 0 none,.bool (.lit false),.int .i64 (szv 0),.int .u64 (u64v 1),.int .u64 (u64v 2),.int .u64 (u64v 3),.bool (.var 0),.bool (.var 1),.bool (.var 2),.int .u16 (u16v 4),.int .u16 (.bin .add .u16 (u16v 5) (.lit 1)),.map 2,.func 112 [] [.ptr 6 0,.ptr 5 0],.int .i64 (.var 6),.bool (.var 3),.int .i64 (u16v 7),.cst 1 none,.int .u32 (u32v 8),.bool (.var 4),.bool (.lit false),.bool (.lit false)]),(5,[.ptr 1 0]),(6,[.func 119 [.ptr 1 0] []])],[(2,[])],1,[1,5,6]⟩]
def Tryz.sindex_ps:List (List (SB×Bool)×Nat):= [
 ([], 0)]
theorem Tryz.sindex_run:(ev prog (entOrc sindex_ents) 100000 (.call 28 sindex_args (zaj 0 sindex_shs) (leafAt sindex_ls 0))).ways sindex_asm=some sindex_ps:=by kernel_rfl
theorem Tryz.sindex_ok:(shsSmall sindex_shs&&entsSmall sindex_ents&&AV.smallL sindex_args&&leavesExact sindex_ls)=true:=by kernel_rfl

def Tryz.sfence14_ents:List Ent:= []
def Tryz.sfence14_shs:List Sh:=shsF 119
def Tryz.sfence14_args:List AV:= [.ptr 1 0]
def Tryz.sfence14_asm:List (SB×Bool):= []
def Tryz.sfence14_ls:List Leaf:= [
 ⟨.tup [.agg [.int .i64 (.lit 4),.int .i64 (.lit 0),.int .i64 (.lit 0)],.int .i64 (.lit 0)],[(1,[.cst 0 none,.bool (.lit false),.int .i64 (szv 0),.int .u64 (u64v 1),.int .u64 (u64v 2),.int .u64 (u64v 3),.bool (.var 0),.bool (.var 1),.bool (.var 2),.int .u16 (u16v 4),.int .u16 (u16v 5),.map 2,.func 119 [.ptr 1 0] [],.int .i64 (.var 6),.bool (.var 3),.int .i64 (u16v 7),.cst 1 none,.int .u32 (u32v 8),.bool (.var 4),.bool (.lit false),.bool (.lit false)])],[(2,[])],0,[1]⟩]
def Tryz.sfence14_ps:List (List (SB×Bool)×Nat):= [
 ([], 0)]
theorem Tryz.sfence14_run:(ev prog (entOrc sfence14_ents) 100000 (.call 28 sfence14_args (zaj 0 sfence14_shs) (leafAt sfence14_ls 0))).ways sfence14_asm=some sfence14_ps:=by kernel_rfl
theorem Tryz.sfence14_ok:(shsSmall sfence14_shs&&entsSmall sfence14_ents&&AV.smallL sfence14_args&&leavesExact sfence14_ls)=true:=by kernel_rfl

def Tryz.stellF_ents:List Ent:= [zeK 2 (.lit 0) 2,loadE]
def Tryz.stellF_shs:List Sh:=shs (zez 119)
def Tryz.stellF_args:List AV:= [.ptr 1 0]
def Tryz.stellF_asm:List (SB×Bool):= [(.var 0,false)]
def Tryz.stellF_ls:List Leaf:= [
 ⟨.tup [.agg [.int .i64 (.lit 2),.int .i64 (.lit 2),.int .i64 (.lit 0)],.int .i64 (.lit 0)],[(1,[.cst 0 none,.bool (.lit false),.int .i64 (szv 0),.int .u64 (u64v 1),.int .u64 (u64v 2),.int .u64 (u64v 3),.bool (.var 0),.bool (.var 1),.bool (.var 2),.int .u16 (u16v 4),.int .u16 (u16v 5),.map 2,.nilf,.int .i64 (.var 6),.bool (.var 3),.int .i64 (u16v 7),.cst 1 none,.int .u32 (u32v 8),.bool (.cmp .eql (.flds [⟨11,0,65535,0,1,0⟩] 0) (.lit 0)),.bool (.lit true),.bool (.lit false)])],[(2,[(.int .i64 (u16v 7),none)])],0,[1]⟩]
def Tryz.stellF_ps:List (List (SB×Bool)×Nat):= [
 ([], 0)]
theorem Tryz.stellF_run:(ev prog (entOrc stellF_ents) 100000 (.call 28 stellF_args (zaj 0 stellF_shs) (leafAt stellF_ls 0))).ways stellF_asm=some stellF_ps:=by kernel_rfl
theorem Tryz.stellF_ok:(shsSmall stellF_shs&&entsSmall stellF_ents&&AV.smallL stellF_args&&leavesExact stellF_ls)=true:=by kernel_rfl

def Tryz.stellE_ents:List Ent:= [zeK 5 (.lit 0) 2,loadE]
def Tryz.stellE_shs:List Sh:=shs (zez 119)
def Tryz.stellE_args:List AV:= [.ptr 1 0]
def Tryz.stellE_asm:List (SB×Bool):= [(.var 0,true)]
def Tryz.stellE_ls:List Leaf:= [
 ⟨.tup [.agg [.int .i64 (.lit 2),.int .i64 (.lit 5),.int .i64 (.lit 0)],.int .i64 (.lit 0)],[(1,[.cst 0 none,.bool (.lit false),.int .i64 (szv 0),.int .u64 (u64v 1),.int .u64 (u64v 2),.int .u64 (u64v 3),.bool (.var 0),.bool (.var 1),.bool (.var 2),.int .u16 (u16v 4),.int .u16 (u16v 5),.map 2,.nilf,.int .i64 (.var 6),.bool (.var 3),.int .i64 (u16v 7),.cst 1 none,.int .u32 (u32v 8),.bool (.cmp .lss (.bin .sub .u16 (.bin .sub .u16 (u16v 5) (u16v 11)) (.lit 1)) (.bin .sub .u16 (u16v 5) (.bin .sub .u16 (u16v 5) (.lit 1)))),.bool (.lit true),.bool (.lit false)])],[(2,[(.int .i64 (u16v 7),none)])],0,[1]⟩]
def Tryz.stellE_ps:List (List (SB×Bool)×Nat):= [
 ([], 0)]
theorem Tryz.stellE_run:(ev prog (entOrc stellE_ents) 100000 (.call 28 stellE_args (zaj 0 stellE_shs) (leafAt stellE_ls 0))).ways stellE_asm=some stellE_ps:=by kernel_rfl
theorem Tryz.stellE_ok:(shsSmall stellE_shs&&entsSmall stellE_ents&&AV.smallL stellE_args&&leavesExact stellE_ls)=true:=by kernel_rfl

def Tryz.spoll_ents:List Ent:= []
def Tryz.spoll_shs:List Sh:= [.own (srow .nilf (.var 5) (.lit false)),.mapx []]
def Tryz.spoll_args:List AV:= [.ptr 1 0]
def Tryz.spoll_asm:List (SB×Bool):= []
def Tryz.spoll_ls:List Leaf:= [
 ⟨.int .i64 (.lit 0),[(1,[.cst 0 none,.bool (.lit false),.int .i64 (szv 0),.int .u64 (u64v 1),.int .u64 (u64v 2),.int .u64 (u64v 3),.bool (.var 0),.bool (.var 1),.bool (.var 2),.int .u16 (u16v 4),.int .u16 (u16v 5),.map 2,.func 55 [.ptr 1 0] [],.int .i64 (.lit 3),.bool (.lit false),.int .i64 (.lit 0),.nils,.int .u32 (.lit 0),.bool (.lit false),.bool (.lit false),.bool (.lit false)])],[(2,[])],0,[1]⟩]
def Tryz.spoll_ps:List (List (SB×Bool)×Nat):= [
 ([], 0)]
theorem Tryz.spoll_run:(ev prog (entOrc spoll_ents) 100000 (.call 13 spoll_args (zaj 0 spoll_shs) (leafAt spoll_ls 0))).ways spoll_asm=some spoll_ps:=by kernel_rfl
theorem Tryz.spoll_ok:(shsSmall spoll_shs&&entsSmall spoll_ents&&AV.smallL spoll_args&&leavesExact spoll_ls)=true:=by kernel_rfl
end Go.Proofs
namespace Go.Proofs
open Go.Dw Go.RowKit

structure Tryz.SW (A:Nat→Prop) (w:World) (S P L Bs B M N:Nat) (r:Rg) (s:SS) (g:Nat→Int):Prop where
 srv:SrvW A w S P M r s
 mem:GM w P L Bs B N g
 hN:N≤1048576
 sd:S≠P∧S≠L∧S≠Bs∧S≠B
 md:M≠P∧M≠L∧M≠Bs∧M≠B
 aB:A B
 lt: ∀b,A b→b<w.heap.size
 fit:r.d+16*r.n≤N∧r.v+6+2*r.n≤N∧r.c+6+8*r.n≤N
def Tryz.sK (S M B b:Nat):Prop:=b=S∨b=M∨b=B
theorem Tryz.zsn {S:Nat→Prop} {a b:World} (h:Mv S a b):Dw.Mv S a b:=⟨h.os,h.tape,h.output,h.size,h.block⟩
def Tryz.memG (P L Bs B N:Nat) (gs:List (Nat→Int)):Gho where
 fact k _ F w:=F P∧F L∧F Bs∧F B∧ ∃g,gs[k]? =some g∧GM w P L Bs B N g
 loc:=fun k _ _ F w w' h _ hb hs=>by
  obtain ⟨h1,h2,h3,h4,g,h5,h6⟩:=h
  exact ⟨h1,h2,h3,h4,g,h5,h6.kept (fun b _ hb'=>by rcases hb' with rfl|rfl|rfl|rfl<;>exact hb _ (by assumption)) hs⟩
theorem Tryz.zbb {P L Bs B N:Nat} {g:Nat→Int} {gs:List (Nat→Int)} {bl:List (Nat×Nat)} {w:World} (h:GM w P L Bs B N g) (hn: ∀b,b=P∨b=L∨b=Bs∨b=B→ ¬Mine (jOf bl) b):(memG P L Bs B N (g::gs)).G 0 (jOf bl) w:=
 ⟨fun b=>b=P∨b=L∨b=Bs∨b=B,fun b hb=>⟨by rcases hb with rfl|rfl|rfl|rfl;exact h.pl;exact h.ll;exact h.sl;exact h.bl,hn b hb⟩,.inl rfl,.inr (.inl rfl),.inr (.inr (.inl rfl)),.inr (.inr (.inr rfl)),g,rfl,h⟩
theorem Tryz.zcK {P L Bs B N k:Nat} {gs:List (Nat→Int)} {j:J} {w:World} (h:(memG P L Bs B N gs).G k j w): ∃g,gs[k]? =some g∧GM w P L Bs B N g:=by
 obtain ⟨F,_,_,_,_,_,h⟩:=h
 exact h
structure Tryz.SDen (ρ:Val) (r:Rg) (s:SS) (p sv:Value):Prop where
 n:(szv 0).den ρ=r.n
 d:(u64v 1).den ρ=r.d
 v:(u64v 2).den ρ=r.v
 c:(u64v 3).den ρ=r.c
 nx:(u16v 4).den ρ=s.nx
 us:(u16v 5).den ρ=s.us
 op:ρ.i 6=s.op
 hd:(u16v 7).den ρ=s.hd
 wr:(u32v 8).den ρ=s.wr
 b0:ρ.b 0=s.ev
 b1:ρ.b 1=s.tb
 b2:ρ.b 2=s.pk
 b3:ρ.b 3=s.nn
 b4:ρ.b 4=s.it
 b5:ρ.b 5=s.dn
 p:ρ.v 0=p
 sv:ρ.v 1=sv
def Tryz.srho (r:Rg) (s:SS) (a x:Int) (p sv x2:Value):Val:=rho r [s.nx,s.us,s.op,s.hd,s.wr,0,a,x] [s.ev,s.tb,s.pk,s.nn,s.it,s.dn] [p,sv,x2]
theorem Tryz.za6 {A:Nat→Prop} {w:World} {S P M:Nat} {r:Rg} {s:SS} (h:SrvW A w S P M r s) (a x:Int) (p sv x2:Value):SDen (srho r s a x p sv x2) r s p sv:=
 ⟨zds h.rg,zdX h.rg,zer h.rg,zes h.rg,zaW h.nx.1 h.nx.2,zaW h.us.1 h.us.2,rfl,zaW h.hd.1 h.hd.2,zbp h.wr.1 h.wr.2,rfl,rfl,rfl,rfl,rfl,rfl,rfl,rfl⟩
theorem Tryz.zbO {ρ:Val} {j:J} {r:Rg} {s:SS} {P M:Nat} {nv sv:Value} (hd:SDen ρ r s (.pointer (some ⟨P,0,none⟩)) sv) (hb:s.br=false) (hsv:sv.oneCell'=true) (hj:j 2=some ⟨M,0,0,none⟩) {next:AV} (hn:R ρ j next nv):
  RL ρ j (srow next (.var 5) (.lit false)) (s.row r P M nv sv):=by
 refine zaa (zaD hd.p rfl) (zaa (zaH rfl) (zaa (zab hd.n) (zaa (zab hd.d) (zaa (zab hd.v) (zaa (zab hd.c) (zaa (zaH hd.b0) (zaa (zaH hd.b1) (zaa (zaH hd.b2) (zaa (zab hd.nx) (zaa (zab hd.us) (zaa (zr3 hj) (zaa hn
  (zaa (zab hd.op) (zaa (zaH hd.b3) (zaa (zab hd.hd) (zaa (zaD hd.sv hsv) (zaa (zab hd.wr) (zaa (zaH hd.b4) (zaa (zaH hd.b5) (zaa (zaH ?_) RL.nil))))))))))))))))))))
 exact hb.symm
theorem Tryz.zcl {A:Nat→Prop} {w:World} {S P M:Nat} {r:Rg} {s:SS} {ρ:Val} {j:J} {K:Nat→Prop} {g:Gho} (h:SrvW A w S P M r s) (hK:K M):ShOk ρ j (cxOf w K g) (M,0) (.mapx []):=by
 obtain ⟨arr,clock,h1,h2,_⟩:=h.tk.map
 exact ⟨hK,rfl,arr,clock,[],h1,h2,rfl,fun _ _ h=>by cases h⟩
theorem Tryz.zaV {w:World} {S:Nat} {ρ:Val} {j:J} {K:Nat→Prop} {g:Gho} {row:List AV} {vals:List Value} (h:Own w S vals) (hr:RL ρ j row vals) (hK:K S):ShOk ρ j (cxOf w K g) (S,0) (.own row):=by
 obtain ⟨arr,e,h1,h2⟩:=h
 exact ⟨hK,rfl,vals,arr,e,h1,hr,h2⟩
theorem Tryz.zjl {w:World} {X:Nat} {ρ:Val} {j:J} {K:Nat→Prop} {g:Gho} {row:List AV} {vals:List Value} (h:Row w ⟨X,0,0,none⟩ vals) (hr:RL ρ j row vals) (hK: ¬K X):ShOk ρ j (cxOf w K g) (X,0) (.ro row):=by
 obtain ⟨arr,e,fr,h1,h2⟩:=h
 have hl:vals.length≤arr.size:=by
  rcases Nat.lt_or_ge arr.size vals.length with hlt|hge
  ·have:=h2 arr.size _ (List.getElem?_eq_getElem hlt)
   rw [Nat.zero_add,Array.getElem?_eq_none (Nat.le_refl _)] at this
   cases this
  ·exact hge
 exact ⟨hK,vals,arr,e,fr,h1,hr,by rw [←hr.length];simpa using hl,h2⟩

theorem Tryz.zb0 {ρ:Val} {w0:World} {K:Nat→Prop} {g:Gho} {r:Rg} {what wide a:Int} {i:SE} (hr: ∀j,R ρ j rg r.val) (ha:(u64v 10).den ρ=a)
  (h: ∀w,Calls prog 120 #[r.val,.int .i64 what,.int .i64 (i.den ρ)] w fun e w'=>e= .returned (.tuple #[.int .u64 a,.int .i64 wide,.int .i64 0])∧Below w.heap.size w w'):zaJ prog ρ w0 K g (zeK what i wide):=
 zak (Dw.enters_of (by kernel_rfl)) rfl [r.val,.int .i64 what,.int .i64 (i.den ρ)] (.tuple #[.int .u64 a,.int .i64 wide,.int .i64 0]) (fun j=>zaa (hr j) (zaa (zab rfl) (zaa (zab rfl) RL.nil)))
  (fun j=>zcX (zaa (zab ha) (zaa (zab rfl) (zaa (zab rfl) RL.nil)))) (fun w _ _ _=>h w)
theorem Tryz.zrz {P L Bs B N k:Nat} {g:Nat→Int} {w:World} (st:GM w P L Bs B N g) (hN:N≤1048576) (hk:k=1∨k=2∨k=4∨k=8) {a:Int} (h0:0≤a) (hin:a+k≤N):
  Calls prog 21 #[.pointer (some ⟨P,0,none⟩),.int .u64 a,.int .i64 k] w fun e w'=>e= .returned (.tuple #[.int .u64 (zaf g a.toNat k),.int .i64 0])∧Below w.heap.size w w':=by
 have:=zry P L Bs B N a.toNat k g w st hN hk (by omega)
 rwa [Int.toNat_of_nonneg h0] at this
theorem Tryz.zij {P L Bs B N k:Nat} {g:Nat→Int} {w:World} (st:GM w P L Bs B N g) (hN:N≤1048576) (hk:k=1∨k=2∨k=4∨k=8) {a:Int} (v:Int) (h0:0≤a) (hin:a+k≤N):
  Calls prog 26 #[.pointer (some ⟨P,0,none⟩),.int .u64 a,.int .i64 k,.int .u64 v] w fun e w'=>e= .returned (.int .i64 0)∧GM w' P L Bs B N (putW g a.toNat k v)∧Dw.Mv (· =B) w w':=by
 have:=zpo P L Bs B N a.toNat k v g w st hN hk (by omega)
 rw [Int.toNat_of_nonneg h0] at this
 exact Calls.mono this fun e w' ⟨h1,h2,h3⟩=>⟨h1,h2,zsn h3⟩
theorem Tryz.ze3 {ρ:Val} {w0:World} {K:Nat→Prop} {P L Bs B N:Nat} {g:Nat→Int} {gs:List (Nat→Int)} {a:Int} (hN:N≤1048576) (hp:ρ.v 0= .pointer (some ⟨P,0,none⟩)) (ha:(u64v 10).den ρ=a) (h0:0≤a) (hin:a+2≤N) (hx:(u16v 11).den ρ=zaf g a.toNat 2):
    zaJ prog ρ w0 K (memG P L Bs B N (g::gs)) loadE:=
  zak (Dw.enters_of (by kernel_rfl)) rfl [.pointer (some ⟨P,0,none⟩),.int .u64 a,.int .i64 2] (.tuple #[.int .u64 (zaf g a.toNat 2),.int .i64 0]) (fun j=>zaa (zaD hp rfl) (zaa (zab ha) (zaa (zab rfl) RL.nil)))
    (fun j=>zcX (zaa (zab hx) (zaa (zab rfl) RL.nil))) (fun w F q hf=>by
      obtain ⟨_,_,_,_,g',hg,hm⟩:=hf
      cases hg
      exact zrz hm hN (k:=2) (.inr (.inl rfl)) h0 hin)
theorem Tryz.zgz {ρ:Val} {w0:World} {K:Nat→Prop} {P L Bs B N:Nat} {g:Nat→Int} {a x:Int} {k:Nat} {v:SE} (hN:N≤1048576) (hp:ρ.v 0= .pointer (some ⟨P,0,none⟩)) (ha:(u64v 10).den ρ=a) (h0:0≤a) (hk:k=1∨k=2∨k=4∨k=8) (hin:a+k≤N) (hv:v.den ρ=x) (hK:K B):
    zaJ prog ρ w0 K (memG P L Bs B N [g,putW g a.toNat k x]) (zlL k v):=
  zfY (Dw.enters_of (by kernel_rfl)) rfl [.pointer (some ⟨P,0,none⟩),.int .u64 a,.int .i64 k,.int .u64 x] (.int .i64 0) (fun j=>zaa (zaD hp rfl) (zaa (zab ha) (zaa (zab rfl) (zaa (zab hv) RL.nil))))
    (fun j=>zab rfl) (fun w F q hf=>by
      obtain ⟨h1,h2,h3,h4,g',hg,hm⟩:=hf
      cases hg
      exact Calls.mono (zij hm hN hk x h0 hin) fun e w' ⟨e1,e2,e3⟩=>⟨e1,⟨h1,h2,h3,h4,_,rfl,e2⟩,e3.mono fun b hb=>hb▸⟨h4,hK⟩⟩)

theorem Tryz.TkW.same {A:Nat→Prop} {w w':World} {M:Nat} {tk:List (Int×List Sg)} (h:TkW A w M tk) (hk: ∀k,k<w.heap.size→ ¬A k→w'.heap[k]? =w.heap[k]?)
  (hm: ∃arr clock arr0 clock0,w'.heap[M]? =some (.map arr clock)∧w.heap[M]? =some (.map arr0 clock0)∧(MapWf arr∧Born arr clock)∧ ∀k,zaU arr k=zaU arr0 k):TkW A w' M tk:=by
 obtain ⟨arr,clock,arr0,clock0,h1,h2,h3,h4⟩:=hm
 obtain ⟨arr1,clock1,g1,g2,g3⟩:=h.map
 rw [g1] at h2;cases h2
 refine ⟨⟨arr,clock,h1,h3,fun k=>⟨fun hk'=>(h4 k).trans ((g3 k).1 hk'),fun l hl=> ?_⟩⟩,h.keys,h.u16⟩
 obtain ⟨v,g4,g5⟩:=(g3 k).2 l hl
 exact ⟨v,(h4 k).trans g4,g5.kept hk⟩
theorem Tryz.TkW.put {A:Nat→Prop} {w w':World} {M:Nat} {tk:List (Int×List Sg)} (h:TkW A w M tk) (hk: ∀k,k<w.heap.size→ ¬A k→w'.heap[k]? =w.heap[k]?) {x:Int} {l:List Sg} {v:Value} (hx:zbN x tk=none) (hx0:0≤x∧x<65536) (hv:SegV A w' v l)
  (hm: ∃arr clock arr0 clock0,w'.heap[M]? =some (.map arr clock)∧w.heap[M]? =some (.map arr0 clock0)∧(MapWf arr∧Born arr clock)∧ ∀k,zaU arr k=if k=x then some v else zaU arr0 k):TkW A w' M (tk++ [(x,l)]):=by
 obtain ⟨arr,clock,arr0,clock0,h1,h2,h3,h4⟩:=hm
 obtain ⟨arr1,clock1,g1,g2,g3⟩:=h.map
 rw [g1] at h2;cases h2
 refine ⟨⟨arr,clock,h1,h3,fun k=> ?_⟩,?_,fun e he=> ?_⟩
 ·rw [zhJ hx,h4]
  by_cases hkx:k=x
  ·rw [if_pos hkx,if_pos hkx]
   exact ⟨fun h=>(by cases h),fun l' hl'=>(by cases hl';exact ⟨v,rfl,hv⟩)⟩
  ·rw [if_neg hkx,if_neg hkx]
   refine ⟨(g3 k).1,fun l' hl'=> ?_⟩
   obtain ⟨v',g4,g5⟩:=(g3 k).2 l' hl'
   exact ⟨v',g4,g5.kept hk⟩
 ·rw [List.map_append,List.nodup_append]
  refine ⟨h.keys,by simp,fun a ha b hb hab=> ?_⟩
  simp only [List.map_cons,List.map_nil,List.mem_singleton] at hb
  subst hb hab
  exact tkGet_notin.1 hx ha
 ·rcases List.mem_append.1 he with he|he
  ·exact h.u16 e he
  ·rw [List.mem_singleton] at he;subst he;exact hx0
theorem Tryz.TkW.del {A:Nat→Prop} {w w':World} {M:Nat} {tk:List (Int×List Sg)} (h:TkW A w M tk) (hk: ∀k,k<w.heap.size→ ¬A k→w'.heap[k]? =w.heap[k]?) {x:Int}
  (hm: ∃arr clock arr0 clock0,w'.heap[M]? =some (.map arr clock)∧w.heap[M]? =some (.map arr0 clock0)∧(MapWf arr∧Born arr clock)∧ ∀k,zaU arr k=if k=x then none else zaU arr0 k):TkW A w' M (zfo x tk):=by
 obtain ⟨arr,clock,arr0,clock0,h1,h2,h3,h4⟩:=hm
 obtain ⟨arr1,clock1,g1,g2,g3⟩:=h.map
 rw [g1] at h2;cases h2
 refine ⟨⟨arr,clock,h1,h3,fun k=> ?_⟩,((zd4 x tk).map (·.1)).nodup h.keys,fun e he=>h.u16 e ((zd4 x tk).subset he)⟩
 rw [zja h.keys,h4]
 by_cases hkx:k=x
 ·rw [if_pos hkx,if_pos hkx]
  exact ⟨fun _=>rfl,fun l' hl'=>(by cases hl')⟩
 ·rw [if_neg hkx,if_neg hkx]
  refine ⟨(g3 k).1,fun l' hl'=> ?_⟩
  obtain ⟨v',g4,g5⟩:=(g3 k).2 l' hl'
  exact ⟨v',g4,g5.kept hk⟩
theorem Tryz.SW.kA {A:Nat→Prop} {w w':World} {S P L Bs B M N:Nat} {r:Rg} {s:SS} {g:Nat→Int} (h:SW A w S P L Bs B M N r s g) (hm:Dw.Mv (sK S M B) w w'): ∀k,k<w.heap.size→ ¬A k→w'.heap[k]? =w.heap[k]? :=fun k hk ha=>
 hm.block k hk fun hh=>ha (by rcases hh with rfl|rfl|rfl;exact h.srv.aS;exact h.srv.aM;exact h.aB)
theorem Tryz.SW.next {A:Nat→Prop} {w w':World} {S P L Bs B M N:Nat} {r:Rg} {s s':SS} {g g':Nat→Int} (h:SW A w S P L Bs B M N r s g) (hm:Dw.Mv (sK S M B) w w') (hg:GM w' P L Bs B N g')
  (ho: ∃nv sv,Own w' S (s'.row r P M nv sv)∧NextOk A w' S s'.ph nv∧SegV A w' sv s'.sg) (ht:TkW A w' M s'.tk) (hnx:0≤s'.nx∧s'.nx<65536) (hus:0≤s'.us∧s'.us<65536) (hhd:0≤s'.hd∧s'.hd<65536) (hwr:0≤s'.wr∧s'.wr<4294967296):SW A w' S P L Bs B M N r s' g':=
 ⟨⟨ho,ht,h.srv.ne,h.srv.aS,h.srv.aM,h.srv.rg,hnx,hus,hhd,hwr⟩,hg,h.hN,h.sd,h.md,h.aB,fun b hb=>Nat.lt_of_lt_of_le (h.lt b hb) hm.size,h.fit⟩
end Go.Proofs
namespace Go.Proofs
open Go.Dw Go.RowKit

def Tryz.SS.brk (s:SS):SS:= { s with op:=0,nn:=false,hd:=0,sg:= [],wr:=0,it:=false,br:=true,ph:=0 }
def Tryz.SS.goto (s:SS) (ph:Nat):SS:= { s with ph:=ph,dn:=false,br:=false }
def Tryz.SS.stop (s:SS):SS:= { s with ph:=0,dn:=true,br:=false }
def Tryz.zd1 (r:Rg) (g:Nat→Int) (s:SS):Int:=(zaf g (r.v+2).toNat 2-s.nx)%65536
def Tryz.zdh (r:Rg) (g:Nat→Int) (s:SS):Int×SS:=
 if r.n<zd1 r g s then (4,s.brk) else if 0<zd1 r g s then (0,s.goto 5) else if s.ev=true then (0,s.goto 2) else (0,({ s with nn:=true }:SS).stop)
def Tryz.zcD (r:Rg) (g:Nat→Int) (s:SS):Int×SS:=
 if r.n<zd1 r g s then (4,s.brk) else if 0<zd1 r g s then (0,s.goto 5) else (0,({ s with nn:=true }:SS).stop)
def Tryz.znO (r:Rg) (g:Nat→Int) (s:SS):SS:=({ s with hd:=zaf g (r.v+4+2*(s.nx.tmod r.n)).toNat 2 }:SS).goto 7
def Tryz.zrt (r:Rg) (g:Nat→Int) (s:SS):Bool:=if s.ev=true then decide ((s.us-zaf g (r.v+4+2*r.n).toNat 2-1)%65536<1) else zaf g r.v.toNat 2%2==0
def Tryz.zjc (r:Rg) (g:Nat→Int) (s:SS):SS:=({ s with it:=zrt r g s,tk:=zfo s.hd s.tk }:SS).stop
def Tryz.accV (k w i:Int):Value:= .agg #[.int .i64 k,.int .i64 w,.int .i64 i]
theorem Tryz.SW.mine {A:Nat→Prop} {w:World} {S P L Bs B M N:Nat} {r:Rg} {s:SS} {g:Nat→Int} (h:SW A w S P L Bs B M N r s g): ∀b,b=P∨b=L∨b=Bs∨b=B→ ¬Mine (jOf [(S,0),(M,0)]) b:=fun b hb hm=>by
 obtain ⟨n,L',h1,_,h3⟩:=hm
 match n,h1 with
 | 0,h1=>cases h1
 | 1,h1=>cases h1;subst h3;rcases hb with e|e|e|e;exact h.sd.1 e;exact h.sd.2.1 e;exact h.sd.2.2.1 e;exact h.sd.2.2.2 e
 | 2,h1=>cases h1;subst h3;rcases hb with e|e|e|e;exact h.md.1 e;exact h.md.2.1 e;exact h.md.2.2.1 e;exact h.md.2.2.2 e
 | n+3,h1=>cases h1
theorem Tryz.SW.apart {A:Nat→Prop} {w:World} {S P L Bs B M N:Nat} {r:Rg} {s:SS} {g:Nat→Int} (h:SW A w S P L Bs B M N r s g) {row:List AV} {kn:List (AV×Option AV)}:apart [(S,0),(M,0)] [.own row,.mapx kn]:=
 ⟨fun _ i b' s' h1 _ _=>(by
  match i,h1 with
  | 0,h1=>cases h1;exact h.srv.ne
  | i+1,h1=>cases h1),⟨fun _ i b' s' h1 _ _=>(by cases h1),trivial⟩⟩
theorem Tryz.SW.kold {A:Nat→Prop} {w:World} {S P L Bs B M N:Nat} {r:Rg} {s:SS} {g:Nat→Int} (h:SW A w S P L Bs B M N r s g): ∀b,sK S M B b→b<w.heap.size:=fun b hb=>by
 rcases hb with rfl|rfl|rfl
 ·exact h.lt _ h.srv.aS
 ·exact h.lt _ h.srv.aM
 ·exact h.lt _ h.aB
theorem Tryz.SW.newA {A:Nat→Prop} {w w':World} {S P L Bs B M N:Nat} {r:Rg} {s:SS} {g:Nat→Int} (h:SW A w S P L Bs B M N r s g) {ρ:Val} {gs:List (Nat→Int)} {bl:List (Nat×Nat)} {l:Leaf} {e:Ending} {j:J}
  (he:EndOk ρ w (sK S M B) (memG P L Bs B N gs) bl l e w' j) (h1:jOf bl 1=some ⟨S,0,0,none⟩) (h2:jOf bl 2=some ⟨M,0,0,none⟩) {row0:List AV} (hr0:(1,row0)∈l.rows) {lg:List (AV×Option AV)} (hm0:(2,lg)∈l.maps)
  {n:Nat} (hn:n∈l.own) (hn1:n≠1) {row:List AV} (hr:(n,row)∈l.rows) {L':Dw.Loc} (hL:j n=some L'): ¬A L'.blk∧L'.off=0:=by
 obtain ⟨h3,h4⟩:=he.fresh n hn L' hL
 refine ⟨fun ha=> ?_,h4⟩
 have hlt:=h.lt _ ha
 rcases h3 with h3|h3
 ·omega
 ·have hK:=h3
  rcases h3 with h3|h3|h3
  ·exact he.apart (n,row) hr (1,row0) hr0 hn1 L' ⟨S,0,0,none⟩ hL (he.sub _ _ h1) h3 (.inr hK)
  ·exact he.mapart (n,row) hr (2,lg) hm0 L' ⟨M,0,0,none⟩ hL (he.sub _ _ h2) h3
  ·obtain ⟨F,h5,h6⟩:=he.gho
   exact (h5 B h6.2.2.2.1).2 (h3▸he.mine (n,row) hr L' hL)
theorem Tryz.zc1 {ρ:Val} {j:J} {K:Nat→Prop} {w0 w:World}: ∀ {rows:List (Nat×List AV)},zmp ρ j K w0 w rows→ ∀ {n:Nat} {row:List AV},(n,row)∈rows→ ∀L,j n=some L→Row w L (AV.valL ρ (lcOf j) row)∧((w0.heap.size≤L.blk∨K L.blk)→L.off=0→Own w L.blk (AV.valL ρ (lcOf j) row))
 | [], _,_,_,h=>by cases h
 | x::l,ho,n,row,h=>by
  rcases List.mem_cons.1 h with rfl|h
  ·exact ho.1
  ·exact zc1 ho.2 h
theorem Tryz.zdH {j:J}: ∀ {rows:List (Nat×List AV)},zgr j rows→ ∀ {n:Nat} {row:List AV},(n,row)∈rows→ ∀L,j n=some L→ ∀k∈AV.namesL row,j k=some (lcOf j k)
 | [], _,_,_,h=>by cases h
 | x::l,ho,n,row,h=>by
  rcases List.mem_cons.1 h with rfl|h
  ·exact ho.1
  ·exact zdH ho.2 h
theorem Tryz.zfD {ρ:Val} {j:J} {w0 w:World}: ∀ {maps:List (Nat×List (AV×Option AV))},zms ρ j w0 w maps→ ∀ {n:Nat} {lg:List (AV×Option AV)},(n,lg)∈maps→
  ∀ L,j n=some L→ ∃arr clock arr0 clock0,w.heap[L.blk]? =some (.map arr clock)∧w0.heap[L.blk]? =some (.map arr0 clock0)∧(MapWf arr∧Born arr clock)∧ ∀k,zaU arr k=mlog (zaU arr0) (ze2 ρ (lcOf j) lg) k
 | [], _,_,_,h=>by cases h
 | x::l,ho,n,row,h=>by
  rcases List.mem_cons.1 h with rfl|h
  ·exact ho.1
  ·exact zfD ho.2 h
theorem Tryz.SW.fenceOk {A:Nat→Prop} {w w':World} {S P L Bs B M N:Nat} {r:Rg} {s:SS} {g:Nat→Int} (h:SW A w S P L Bs B M N r s g) {ρ:Val} {gs:List (Nat→Int)} {bl:List (Nat×Nat)} {l:Leaf} {e:Ending} {j:J}
  (he:EndOk ρ w (sK S M B) (memG P L Bs B N gs) bl l e w' j) (h1:jOf bl 1=some ⟨S,0,0,none⟩) (h2:jOf bl 2=some ⟨M,0,0,none⟩) {row0:List AV} (hr0:(1,row0)∈l.rows) {lg:List (AV×Option AV)} (hm0:(2,lg)∈l.maps)
  {x y f ph:Nat} (hx:(x,[zez f])∈l.rows) (hy:(y,[.ptr 1 0])∈l.rows) (ox:x∈l.own) (oy:y∈l.own) (nx:x≠1) (ny:y≠1) (kx:x∈AV.namesL row0) (ky:y∈AV.namesL row0) (hf:znJ ph=some f):
  NextOk A w' S ph (AV.val ρ (lcOf j) (.func 112 [] [.ptr x 0,.ptr y 0])):=by
 have hj1:=he.sub _ _ h1
 have jx:=zdH he.rnames hr0 _ hj1 x kx
 have jy:=zdH he.rnames hr0 _ hj1 y ky
 obtain ⟨ax,zx⟩:=h.newA he h1 h2 hr0 hm0 ox nx hx jx
 obtain ⟨ay,zy⟩:=h.newA he h1 h2 hr0 hm0 oy ny hy jy
 have rx:=(zc1 he.rows hx _ jx).1
 have ry:=(zc1 he.rows hy _ jy).1
 have lc1:lcOf j 1=⟨S,0,0,none⟩:=zad hj1
 refine .fence f (lcOf j x).blk (lcOf j y).blk hf ?_ ?_ ?_ ax ay
 ·simp only [AV.val,AV.valL,zx,zy]
 ·have e:AV.valL ρ (lcOf j) [zez f]= [zf6 S f]:=by simp only [AV.valL,AV.val,zez,lc1];rfl
  rw [e] at rx
  obtain ⟨arr,e,fr,q1,q2⟩:=rx
  exact ⟨arr,e,fr,q1,by rw [zx] at q2;exact q2⟩
 ·have e:AV.valL ρ (lcOf j) [.ptr 1 0]= [.pointer (some ⟨S,0,none⟩)]:=by simp only [AV.valL,AV.val,lc1]
  rw [e] at ry
  obtain ⟨arr,e,fr,q1,q2⟩:=ry
  exact ⟨arr,e,fr,q1,by rw [zy] at q2;exact q2⟩
theorem Tryz.SegV.none {A:Nat→Prop} {w:World}:SegV A w (.slice none 0 0) []:=⟨Option.none,0,rfl,fun _ h=>(by cases h),Or.inl rfl⟩
theorem Tryz.zoY {g:Nat→Int} (hg: ∀j,0≤g j∧g j<256) (a:Nat):0≤zaf g a 2∧zaf g a 2<65536:=zcF g hg a 2
end Go.Proofs
namespace Go.Proofs
open Go.Dw Go.RowKit

theorem Tryz.z16:(0:Int)≤0∧(0:Int)<65536:=by decide
theorem Tryz.z32:(0:Int)≤0∧(0:Int)<4294967296:=by decide
set_option maxHeartbeats 1000000 in
theorem Tryz.zp2 {A:Nat→Prop} {w:World} {S P L Bs B M N:Nat} {r:Rg} {s:SS} {g:Nat→Int} (h:SW A w S P L Bs B M N r s g) (hb:s.br=false) (hp:s.ph=1):
  Calls prog 28 #[.pointer (some ⟨S,0,none⟩)] w fun e w'=>e= .returned (.tuple #[accV 2 3 0,.int .i64 (zdh r g s).1])∧SW A w' S P L Bs B M N r (zdh r g s).2 g∧Dw.Mv (sK S M B) w w':=by
 obtain ⟨nv,sv,ho,hn,hsv⟩:=h.srv.obj
 have hrg:=h.srv.rg
 obtain ⟨hx0,hx1⟩:=zoY h.mem.byte (r.v+2).toNat
 have hbd:=hrg.bnd
 have hf:=h.fit
 have hrv:=hrg.v0
 generalize hxx:zaf g (r.v+2).toNat 2=x at hx0 hx1
 have hd:=za6 h.srv (r.v+2) x (.pointer (some ⟨P,0,none⟩)) sv undef
 have ea:(u64v 10).den (srho r s (r.v+2) x (.pointer (some ⟨P,0,none⟩)) sv undef)=r.v+2:=zav (by show 0≤r.v+2;omega) (by show r.v+2<_;have:=h.hN;omega)
 have ex:(u16v 11).den (srho r s (r.v+2) x (.pointer (some ⟨P,0,none⟩)) sv undef)=x:=zaW hx0 hx1
 have hnv:nv=zf6 S 55:=by
  rw [hp] at hn
  cases hn with
  | idle h _=>cases h
  | meth f h hv=>cases h;exact hv
  | fence f _ _ h=>cases h
 subst hnv
 have hj2:jOf [(S,0),(M,0)] 2=some ⟨M,0,0,none⟩:=rfl
 have hj1:jOf [(S,0),(M,0)] 1=some ⟨S,0,0,none⟩:=rfl
 refine Calls.mono (zap (ρ:=srho r s (r.v+2) x (.pointer (some ⟨P,0,none⟩)) sv undef) (K:=sK S M B) (g:=memG P L Bs B N [g]) (bl:= [(S,0),(M,0)]) (vals:= [.pointer (some ⟨S,0,none⟩)]) mixed slook_run slook_ok h.kold
  ⟨zaV ho (zbO hd hb hsv.one hj2 (zbz (zaa (zaK hj1) RL.nil) RL.nil)) (.inl rfl),zcl h.srv (.inr (.inl rfl)),trivial⟩ h.apart (zbb h.mem h.mine)
  ⟨zb0 (fun j=>R_rg hrg) ea (fun w=>znr r hrg w),ze3 h.hN hd.p ea (by omega) (by omega) (ex.trans hxx.symm),trivial⟩ (zaa (zaK hj1) RL.nil) (told_nil.2 trivial)) fun e w' hh=> ?_
 obtain ⟨p,hpm,hto,l,hl,j,he⟩:=hh
 have hj1':=he.sub _ _ hj1
 have hj2':=he.sub _ _ hj2
 have lc1:=zad hj1'
 have lc2:=zad hj2'
 have hmv:=he.mv
 have hkA:=h.kA hmv
 obtain ⟨g',hg0,hgm⟩:=zcK he.gho
 have hah:zd1 r g s=(x-s.nx)%65536:=by unfold zd1;rw [hxx]
 unfold slook_ps at hpm
 simp only [List.mem_cons,List.not_mem_nil,or_false] at hpm
 rcases hpm with rfl|rfl|rfl|rfl|rfl|rfl
 all_goals
  simp only [told_cons_iff,told_nil,zaP,zbS,zau,zax,zac,hd.n,hd.nx,hd.b0,ex,zaC,decide_eq_true_eq,decide_eq_false_iff_not,and_true] at hto
  cases hl
  have hO:=(he.rows.1 _ hj1').2 (.inr (.inl rfl)) rfl
  have hM:=he.maps.1 _ hj2'
  cases hg0
  simp only [AV.val,AV.valL,lc1,lc2,hd.n,hd.d,hd.v,hd.c,hd.nx,hd.us,hd.hd,hd.wr,hd.p,hd.sv,zai,zac,zau,zby,hd.op,hd.b0,hd.b1,hd.b2,hd.b3,hd.b4,hd.b5] at hO
 ·have e1:zdh r g s=(4,s.brk):=by unfold zdh;rw [hah,if_pos (by omega)]
  rw [e1]
  exact ⟨he.ret,h.next hmv hgm ⟨_,_,hO,.idle rfl rfl,SegV.none⟩ (h.srv.tk.same hkA hM) h.srv.nx h.srv.us z16 z32,hmv⟩
 ·have e1:zdh r g s=(0,s.goto 5):=by unfold zdh;rw [hah,if_neg (by omega),if_pos (by omega)]
  rw [e1]
  exact ⟨he.ret,h.next hmv hgm ⟨_,_,hO,h.fenceOk he hj1 hj2 (.head _) (.head _) (x:=10) (y:=9) (f:=83) (.tail _ (.tail _ (.head _))) (.tail _ (.head _)) (.tail _ (.tail _ (.head _))) (.tail _ (.head _)) (by decide) (by decide) (by decide) (by decide) rfl,hsv.kept hkA⟩ (h.srv.tk.same hkA hM) h.srv.nx h.srv.us h.srv.hd h.srv.wr,hmv⟩
 ·have e1:zdh r g s=(4,s.brk):=by unfold zdh;rw [hah,if_pos (by omega)]
  rw [e1]
  exact ⟨he.ret,h.next hmv hgm ⟨_,_,hO,.idle rfl rfl,SegV.none⟩ (h.srv.tk.same hkA hM) h.srv.nx h.srv.us z16 z32,hmv⟩
 ·have e1:zdh r g s=(0,s.goto 2):=by unfold zdh;rw [hah,if_neg (by omega),if_neg (by omega),if_pos hto.2.1]
  rw [e1]
  exact ⟨he.ret,h.next hmv hgm ⟨_,_,hO,.meth _ rfl rfl,hsv.kept hkA⟩ (h.srv.tk.same hkA hM) h.srv.nx h.srv.us h.srv.hd h.srv.wr,hmv⟩
 ·have e1:zdh r g s=(4,s.brk):=by unfold zdh;rw [hah,if_pos (by omega)]
  rw [e1]
  exact ⟨he.ret,h.next hmv hgm ⟨_,_,hO,.idle rfl rfl,SegV.none⟩ (h.srv.tk.same hkA hM) h.srv.nx h.srv.us z16 z32,hmv⟩
 ·have e1:zdh r g s=(0,({ s with nn:=true }:SS).stop):=by unfold zdh;rw [hah,if_neg (by omega),if_neg (by omega),if_neg (by rw [hto.2.1];simp)]
  rw [e1]
  exact ⟨he.ret,h.next hmv hgm ⟨_,_,hO,.idle rfl rfl,hsv.kept hkA⟩ (h.srv.tk.same hkA hM) h.srv.nx h.srv.us h.srv.hd h.srv.wr,hmv⟩
end Go.Proofs
namespace Go.Proofs
open Go.Dw Go.RowKit
theorem Tryz.SW.kmem {A:Nat→Prop} {w:World} {S P L Bs B M N:Nat} {r:Rg} {s:SS} {g:Nat→Int} (h:SW A w S P L Bs B M N r s g): ∀k,(k=P∨k=L∨k=Bs∨k=B)→ ¬(k=S∨k=M):=fun k hk hh=>by
 rcases hh with rfl|rfl
 ·rcases hk with e|e|e|e;exact h.sd.1 e;exact h.sd.2.1 e;exact h.sd.2.2.1 e;exact h.sd.2.2.2 e
 ·rcases hk with e|e|e|e;exact h.md.1 e;exact h.md.2.1 e;exact h.md.2.2.1 e;exact h.md.2.2.2 e
theorem Tryz.SW.apartF {A:Nat→Prop} {w:World} {S P L Bs B M N X Y:Nat} {r:Rg} {s:SS} {g:Nat→Int} (h:SW A w S P L Bs B M N r s g) {row r3 r4:List AV} {kn:List (AV×Option AV)}:Dw.apart [(S,0),(M,0),(X,0),(Y,0)] [.own row,.mapx kn,.ro r3,.ro r4]:=
  ⟨fun _ i b' s' h1 h2 h3=>(by
    match i,h1,h2 with
    | 0,h1,_=>cases h1;exact h.srv.ne
    | 1,_,h2=>cases h2;cases h3
    | 2,_,h2=>cases h2;cases h3
    | i+3,h1,_=>cases h1),
   ⟨fun _ i b' s' h1 h2 h3=>(by
    match i,h1,h2 with
    | 0,_,h2=>cases h2;cases h3
    | 1,_,h2=>cases h2;cases h3
    | i+2,h1,_=>cases h1),⟨fun h=>(by cases h),⟨fun h=>(by cases h),trivial⟩⟩⟩⟩
theorem Tryz.zsG {ρ:Val} {x:Int} (h0:0≤x) (h1:x<65536) (e:ρ.i 11=x:=by rfl):SE.den ρ (.flds [⟨11,0,65535,0,1,0⟩] 0)=x%2:=by
 obtain ⟨n,rfl⟩:=Int.eq_ofNat_of_zero_le h0
 simp only [SE.den,zae,Fld.den,e,Int.toNat_natCast,Nat.shiftRight_zero,Nat.shiftLeft_zero,Nat.or_zero]
 have e2:max 0 (min n 65535)=n:=by omega
 rw [e2]
 rfl
theorem Tryz.zpj {ρ:Val} {h l:Int} (h0:0≤h∧h<65536) (l0:0≤l∧l<4294967296) (e7:ρ.i 7=h:=by rfl) (e8:ρ.i 8=l:=by rfl):SE.den ρ (.flds [⟨7,0,65535,0,16,0⟩,⟨8,0,4294967295,0,32,32⟩] 0)=h+l*4294967296:=by
 obtain ⟨n,rfl⟩:=Int.eq_ofNat_of_zero_le h0.1
 obtain ⟨m,rfl⟩:=Int.eq_ofNat_of_zero_le l0.1
 simp only [SE.den,zae,Fld.den,e7,e8,Int.toNat_natCast,Nat.shiftRight_zero,Nat.shiftLeft_zero,Nat.or_zero]
 have e2:max 0 (min n 65535)=n:=by omega
 have e3:max 0 (min m 4294967295)=m:=by omega
 rw [e2,e3,Nat.mod_eq_of_lt (by omega),Nat.mod_eq_of_lt (by omega),Nat.or_comm,←Nat.shiftLeft_add_eq_or_of_lt (by omega),Nat.shiftLeft_eq]
 show ((m*4294967296+n:Nat):Int)=_
 omega
theorem Tryz.zrs {u x:Int} (h:0≤u∧u<65536):decide ((u-x-1)%65536<1)=decide (((u-x)%65536-1)%65536<(u-(u-1)%65536)%65536):=by
 congr 1
 apply propext
 omega
set_option maxHeartbeats 1000000 in
theorem Tryz.zo8 {A:Nat→Prop} {w:World} {S P L Bs B M N:Nat} {r:Rg} {s:SS} {g:Nat→Int} (h:SW A w S P L Bs B M N r s g) (hb:s.br=false) (hp:s.ph=4):
  Calls prog 28 #[.pointer (some ⟨S,0,none⟩)] w fun e w'=>e= .returned (.tuple #[accV 2 3 0,.int .i64 (zcD r g s).1])∧SW A w' S P L Bs B M N r (zcD r g s).2 g∧Dw.Mv (sK S M B) w w':=by
 obtain ⟨nv,sv,ho,hn,hsv⟩:=h.srv.obj
 have hrg:=h.srv.rg
 have hbd:=hrg.bnd
 have hf:=h.fit
 have hrv:=hrg.v0
 have hrc:=hrg.c0
 have hN:=h.hN
 obtain ⟨hx0,hx1⟩:=zoY h.mem.byte (r.v+2).toNat
 generalize hxx:zaf g (r.v+2).toNat 2=x at hx0 hx1
 have hd:=za6 h.srv (r.v+2) x (.pointer (some ⟨P,0,none⟩)) sv undef
 have ea:(u64v 10).den (srho r s (r.v+2) x (.pointer (some ⟨P,0,none⟩)) sv undef)=(r.v+2):=zav (by show 0≤(r.v+2);omega) (by show (r.v+2)<_;omega)
 have ex:(u16v 11).den (srho r s (r.v+2) x (.pointer (some ⟨P,0,none⟩)) sv undef)=x:=zaW hx0 hx1
 have hnv:nv=zf6 S 114:=by
  rw [hp] at hn
  cases hn with
  | idle h _=>cases h
  | meth f h hv=>cases h;exact hv
  | fence f _ _ h=>cases h
 subst hnv
 have hj2:jOf [(S,0),(M,0)] 2=some ⟨M,0,0,none⟩:=rfl
 have hj1:jOf [(S,0),(M,0)] 1=some ⟨S,0,0,none⟩:=rfl
 refine Calls.mono (zap (ρ:=(srho r s (r.v+2) x (.pointer (some ⟨P,0,none⟩)) sv undef)) (K:=sK S M B) (g:=memG P L Bs B N [g]) (bl:= [(S,0),(M,0)]) (vals:= [.pointer (some ⟨S,0,none⟩)]) mixed sagain_run sagain_ok h.kold
  ⟨zaV ho (zbO hd hb hsv.one hj2 (zbz (zaa (zaK hj1) RL.nil) RL.nil)) (.inl rfl),zcl h.srv (.inr (.inl rfl)),trivial⟩ h.apart (zbb h.mem h.mine)
  ⟨zb0 (fun j=>R_rg hrg) ea (fun w=>znr r hrg w),ze3 h.hN hd.p ea (by omega) (by omega) (ex.trans hxx.symm),trivial⟩ (zaa (zaK hj1) RL.nil) (told_nil.2 trivial)) fun e w' hh=> ?_
 obtain ⟨p,hpm,hto,l,hl,j,he⟩:=hh
 have hj1':=he.sub _ _ hj1
 have hj2':=he.sub _ _ hj2
 have lc1:=zad hj1'
 have lc2:=zad hj2'
 have hmv:=he.mv
 have hkA:=h.kA hmv
 obtain ⟨g',hg0,hgm⟩:=zcK he.gho
 have hah:zd1 r g s=(x-s.nx)%65536:=by unfold zd1;rw [hxx]
 unfold sagain_ps at hpm
 simp only [List.mem_cons,List.not_mem_nil,or_false] at hpm
 rcases hpm with rfl|rfl|rfl|rfl
 all_goals
  simp only [told_cons_iff,told_nil,zaP,zbS,zau,zax,zac,hd.n,hd.nx,hd.b0,ex,zaC,decide_eq_true_eq,decide_eq_false_iff_not,and_true] at hto
  cases hl
  have hO:=(he.rows.1 _ hj1').2 (.inr (.inl rfl)) rfl
  have hM:=he.maps.1 _ hj2'
  cases hg0
  simp only [AV.val,AV.valL,lc1,lc2,hd.n,hd.d,hd.v,hd.c,hd.nx,hd.us,hd.hd,hd.wr,hd.p,hd.sv,zai,zac,den_add,zax,zaC,zau,zby,hd.op,hd.b0,hd.b1,hd.b2,hd.b3,hd.b4,hd.b5] at hO
 ·have e1:zcD r g s=(4,s.brk):=by unfold zcD;rw [hah,if_pos (by omega)]
  rw [e1]
  exact ⟨he.ret,h.next hmv hgm ⟨_,_,hO,.idle rfl rfl,SegV.none⟩ (h.srv.tk.same hkA hM) h.srv.nx h.srv.us z16 z32,hmv⟩
 ·have e1:zcD r g s=(0,s.goto 5):=by unfold zcD;rw [hah,if_neg (by omega),if_pos (by omega)]
  rw [e1]
  exact ⟨he.ret,h.next hmv hgm ⟨_,_,hO,h.fenceOk he hj1 hj2 (.head _) (.head _) (x:=10) (y:=9) (f:=83) (.tail _ (.tail _ (.head _))) (.tail _ (.head _)) (.tail _ (.tail _ (.head _))) (.tail _ (.head _)) (by decide) (by decide) (by decide) (by decide) rfl,hsv.kept hkA⟩ (h.srv.tk.same hkA hM) h.srv.nx h.srv.us h.srv.hd h.srv.wr,hmv⟩
 ·have e1:zcD r g s=(4,s.brk):=by unfold zcD;rw [hah,if_pos (by omega)]
  rw [e1]
  exact ⟨he.ret,h.next hmv hgm ⟨_,_,hO,.idle rfl rfl,SegV.none⟩ (h.srv.tk.same hkA hM) h.srv.nx h.srv.us z16 z32,hmv⟩
 ·have e1:zcD r g s=(0,({ s with nn:=true }:SS).stop):=by unfold zcD;rw [hah,if_neg (by omega),if_neg (by omega)]
  rw [e1]
  exact ⟨he.ret,h.next hmv hgm ⟨_,_,hO,.idle rfl rfl,hsv.kept hkA⟩ (h.srv.tk.same hkA hM) h.srv.nx h.srv.us h.srv.hd h.srv.wr,hmv⟩
set_option maxHeartbeats 1000000 in
theorem Tryz.zpI {A:Nat→Prop} {w:World} {S P L Bs B M N:Nat} {r:Rg} {s:SS} {g:Nat→Int} (h:SW A w S P L Bs B M N r s g) (hb:s.br=false) (hp:s.ph=6):
  Calls prog 28 #[.pointer (some ⟨S,0,none⟩)] w fun e w'=>e= .returned (.tuple #[accV 2 4 (s.nx.tmod r.n),.int .i64 0])∧SW A w' S P L Bs B M N r (znO r g s) g∧Dw.Mv (sK S M B) w w':=by
 obtain ⟨nv,sv,ho,hn,hsv⟩:=h.srv.obj
 have hrg:=h.srv.rg
 have hbd:=hrg.bnd
 have hf:=h.fit
 have hrv:=hrg.v0
 have hrc:=hrg.c0
 have hN:=h.hN
 have hm0:0≤s.nx.tmod r.n:=Int.tmod_nonneg _ h.srv.nx.1
 have hm1:s.nx.tmod r.n<r.n:=Int.tmod_lt_of_pos _ (by omega)
 obtain ⟨hx0,hx1⟩:=zoY h.mem.byte (r.v+4+2*s.nx.tmod r.n).toNat
 generalize hxx:zaf g (r.v+4+2*s.nx.tmod r.n).toNat 2=x at hx0 hx1
 have hd:=za6 h.srv (r.v+4+2*s.nx.tmod r.n) x (.pointer (some ⟨P,0,none⟩)) sv undef
 have ea:(u64v 10).den (srho r s (r.v+4+2*s.nx.tmod r.n) x (.pointer (some ⟨P,0,none⟩)) sv undef)=(r.v+4+2*s.nx.tmod r.n):=zav (by show 0≤(r.v+4+2*s.nx.tmod r.n);omega) (by show (r.v+4+2*s.nx.tmod r.n)<_;omega)
 have ex:(u16v 11).den (srho r s (r.v+4+2*s.nx.tmod r.n) x (.pointer (some ⟨P,0,none⟩)) sv undef)=x:=zaW hx0 hx1
 have er:SE.den (srho r s (r.v+4+2*s.nx.tmod r.n) x (.pointer (some ⟨P,0,none⟩)) sv undef) (.bin .rem .i64 (u16v 4) (szv 0))=s.nx.tmod r.n:=by rw [zlA,hd.nx,hd.n]
 have hnv:nv=zf6 S 83:=by
  rw [hp] at hn
  cases hn with
  | idle h _=>cases h
  | meth f h hv=>cases h;exact hv
  | fence f _ _ h=>cases h
 subst hnv
 have hj2:jOf [(S,0),(M,0)] 2=some ⟨M,0,0,none⟩:=rfl
 have hj1:jOf [(S,0),(M,0)] 1=some ⟨S,0,0,none⟩:=rfl
 refine Calls.mono (zap (ρ:=(srho r s (r.v+4+2*s.nx.tmod r.n) x (.pointer (some ⟨P,0,none⟩)) sv undef)) (K:=sK S M B) (g:=memG P L Bs B N [g]) (bl:= [(S,0),(M,0)]) (vals:= [.pointer (some ⟨S,0,none⟩)]) mixed sring_run sring_ok h.kold
  ⟨zaV ho (zbO hd hb hsv.one hj2 (zbz (zaa (zaK hj1) RL.nil) RL.nil)) (.inl rfl),zcl h.srv (.inr (.inl rfl)),trivial⟩ h.apart (zbb h.mem h.mine)
  ⟨zb0 (fun j=>R_rg hrg) ea (fun w=>by rw [er];exact zqZ r hrg _ ⟨hm0,hm1⟩ w),ze3 h.hN hd.p ea (by omega) (by omega) (ex.trans hxx.symm),trivial⟩ (zaa (zaK hj1) RL.nil) (told_nil.2 trivial)) fun e w' hh=> ?_
 obtain ⟨p,hpm,hto,l,hl,j,he⟩:=hh
 have hj1':=he.sub _ _ hj1
 have hj2':=he.sub _ _ hj2
 have lc1:=zad hj1'
 have lc2:=zad hj2'
 have hmv:=he.mv
 have hkA:=h.kA hmv
 obtain ⟨g',hg0,hgm⟩:=zcK he.gho
 unfold sring_ps at hpm
 simp only [List.mem_cons,List.not_mem_nil,or_false] at hpm
 rcases hpm with rfl
 all_goals
  simp only [told_cons_iff,told_nil,zaP,zbS,zau,zax,zac,hd.n,hd.nx,hd.b0,ex,zaC,decide_eq_true_eq,decide_eq_false_iff_not,and_true] at hto
  cases hl
  have hO:=(he.rows.1 _ hj1').2 (.inr (.inl rfl)) rfl
  have hM:=he.maps.1 _ hj2'
  cases hg0
  simp only [AV.val,AV.valL,lc1,lc2,hd.n,hd.d,hd.v,hd.c,hd.nx,hd.us,hd.hd,hd.wr,hd.p,hd.sv,zai,zac,den_add,zax,zaC,zau,zby,hd.op,hd.b0,hd.b1,hd.b2,hd.b3,hd.b4,hd.b5,ex] at hO
 ·have e1:znO r g s=({ s with hd:=x }:SS).goto 7:=by unfold znO;rw [hxx]
  rw [e1]
  exact ⟨he.ret.trans (by simp only [AV.val,AV.valL,er,zac];rfl),h.next hmv hgm ⟨_,_,hO,.meth _ rfl rfl,hsv.kept hkA⟩ (h.srv.tk.same hkA hM) h.srv.nx h.srv.us ⟨hx0,hx1⟩ h.srv.wr,hmv⟩
set_option maxHeartbeats 1000000 in
theorem Tryz.zoI {A:Nat→Prop} {w:World} {S P L Bs B M N:Nat} {r:Rg} {s:SS} {g:Nat→Int} (h:SW A w S P L Bs B M N r s g) (hb:s.br=false) (hp:s.ph=2):
  Calls prog 28 #[.pointer (some ⟨S,0,none⟩)] w fun e w'=>e= .returned (.tuple #[accV 3 9 0,.int .i64 0])∧SW A w' S P L Bs B M N r (s.goto 3) (putW g (r.c+4+8*r.n).toNat 2 s.nx)∧Dw.Mv (sK S M B) w w':=by
 obtain ⟨nv,sv,ho,hn,hsv⟩:=h.srv.obj
 have hrg:=h.srv.rg
 have hbd:=hrg.bnd
 have hf:=h.fit
 have hrv:=hrg.v0
 have hrc:=hrg.c0
 have hN:=h.hN
 have hd:=za6 h.srv (r.c+4+8*r.n) 0 (.pointer (some ⟨P,0,none⟩)) sv undef
 have ea:(u64v 10).den (srho r s (r.c+4+8*r.n) 0 (.pointer (some ⟨P,0,none⟩)) sv undef)=(r.c+4+8*r.n):=zav (by show 0≤(r.c+4+8*r.n);omega) (by show (r.c+4+8*r.n)<_;omega)
 have hnv:nv=zf6 S 84:=by
  rw [hp] at hn
  cases hn with
  | idle h _=>cases h
  | meth f h hv=>cases h;exact hv
  | fence f _ _ h=>cases h
 subst hnv
 have hj2:jOf [(S,0),(M,0)] 2=some ⟨M,0,0,none⟩:=rfl
 have hj1:jOf [(S,0),(M,0)] 1=some ⟨S,0,0,none⟩:=rfl
 refine Calls.mono (zap (ρ:=(srho r s (r.c+4+8*r.n) 0 (.pointer (some ⟨P,0,none⟩)) sv undef)) (K:=sK S M B) (g:=memG P L Bs B N [g,putW g (r.c+4+8*r.n).toNat 2 s.nx]) (bl:= [(S,0),(M,0)]) (vals:= [.pointer (some ⟨S,0,none⟩)]) mixed sevent_run sevent_ok h.kold
  ⟨zaV ho (zbO hd hb hsv.one hj2 (zbz (zaa (zaK hj1) RL.nil) RL.nil)) (.inl rfl),zcl h.srv (.inr (.inl rfl)),trivial⟩ h.apart (zbb h.mem h.mine)
  ⟨zb0 (fun j=>R_rg hrg) ea (fun w=>zqV r hrg w),zgz (k:=2) h.hN hd.p ea (by omega) (.inr (.inl rfl)) (by omega) hd.nx (.inr (.inr rfl)),trivial⟩ (zaa (zaK hj1) RL.nil) (told_nil.2 trivial)) fun e w' hh=> ?_
 obtain ⟨p,hpm,hto,l,hl,j,he⟩:=hh
 have hj1':=he.sub _ _ hj1
 have hj2':=he.sub _ _ hj2
 have lc1:=zad hj1'
 have lc2:=zad hj2'
 have hmv:=he.mv
 have hkA:=h.kA hmv
 obtain ⟨g',hg0,hgm⟩:=zcK he.gho
 unfold sevent_ps at hpm
 simp only [List.mem_cons,List.not_mem_nil,or_false] at hpm
 rcases hpm with rfl
 all_goals
  simp only [told_cons_iff,told_nil,zaP,zbS,zau,zax,zac,hd.n,hd.nx,hd.b0,zaC,decide_eq_true_eq,decide_eq_false_iff_not,and_true] at hto
  cases hl
  have hO:=(he.rows.1 _ hj1').2 (.inr (.inl rfl)) rfl
  have hM:=he.maps.1 _ hj2'
  cases hg0
  simp only [AV.val,AV.valL,lc1,lc2,hd.n,hd.d,hd.v,hd.c,hd.nx,hd.us,hd.hd,hd.wr,hd.p,hd.sv,zai,zac,den_add,zax,zaC,zau,zby,hd.op,hd.b0,hd.b1,hd.b2,hd.b3,hd.b4,hd.b5] at hO
 ·exact ⟨he.ret,h.next hmv hgm ⟨_,_,hO,h.fenceOk he hj1 hj2 (.head _) (.head _) (x:=6) (y:=5) (f:=114) (.tail _ (.tail _ (.head _))) (.tail _ (.head _)) (.tail _ (.tail _ (.head _))) (.tail _ (.head _)) (by decide) (by decide) (by decide) (by decide) rfl,hsv.kept hkA⟩ (h.srv.tk.same hkA hM) h.srv.nx h.srv.us h.srv.hd h.srv.wr,hmv⟩
set_option maxHeartbeats 1000000 in
theorem Tryz.zlx {A:Nat→Prop} {w:World} {S P L Bs B M N:Nat} {r:Rg} {s:SS} {g:Nat→Int} (h:SW A w S P L Bs B M N r s g) (hb:s.br=false) (hp:s.ph=11):
  Calls prog 28 #[.pointer (some ⟨S,0,none⟩)] w fun e w'=>e= .returned (.tuple #[accV 3 8 (s.us.tmod r.n),.int .i64 0])∧SW A w' S P L Bs B M N r (s.goto 12) (putW g (r.c+4+8*s.us.tmod r.n).toNat 8 (s.hd+s.wr*4294967296))∧Dw.Mv (sK S M B) w w':=by
 obtain ⟨nv,sv,ho,hn,hsv⟩:=h.srv.obj
 have hrg:=h.srv.rg
 have hbd:=hrg.bnd
 have hf:=h.fit
 have hrv:=hrg.v0
 have hrc:=hrg.c0
 have hN:=h.hN
 have hm0:0≤s.us.tmod r.n:=Int.tmod_nonneg _ h.srv.us.1
 have hm1:s.us.tmod r.n<r.n:=Int.tmod_lt_of_pos _ (by omega)
 have hd:=za6 h.srv (r.c+4+8*s.us.tmod r.n) 0 (.pointer (some ⟨P,0,none⟩)) sv undef
 have ea:(u64v 10).den (srho r s (r.c+4+8*s.us.tmod r.n) 0 (.pointer (some ⟨P,0,none⟩)) sv undef)=(r.c+4+8*s.us.tmod r.n):=zav (by show 0≤(r.c+4+8*s.us.tmod r.n);omega) (by show (r.c+4+8*s.us.tmod r.n)<_;omega)
 have er:SE.den (srho r s (r.c+4+8*s.us.tmod r.n) 0 (.pointer (some ⟨P,0,none⟩)) sv undef) (.bin .rem .i64 (u16v 5) (szv 0))=s.us.tmod r.n:=by rw [zlA,hd.us,hd.n]
 have eu:SE.den (srho r s (r.c+4+8*s.us.tmod r.n) 0 (.pointer (some ⟨P,0,none⟩)) sv undef) (.flds [⟨7,0,65535,0,16,0⟩,⟨8,0,4294967295,0,32,32⟩] 0)=s.hd+s.wr*4294967296:=zpj h.srv.hd h.srv.wr
 have hnv:nv=zf6 S 61:=by
  rw [hp] at hn
  cases hn with
  | idle h _=>cases h
  | meth f h hv=>cases h;exact hv
  | fence f _ _ h=>cases h
 subst hnv
 have hj2:jOf [(S,0),(M,0)] 2=some ⟨M,0,0,none⟩:=rfl
 have hj1:jOf [(S,0),(M,0)] 1=some ⟨S,0,0,none⟩:=rfl
 refine Calls.mono (zap (ρ:=(srho r s (r.c+4+8*s.us.tmod r.n) 0 (.pointer (some ⟨P,0,none⟩)) sv undef)) (K:=sK S M B) (g:=memG P L Bs B N [g,putW g (r.c+4+8*s.us.tmod r.n).toNat 8 (s.hd+s.wr*4294967296)]) (bl:= [(S,0),(M,0)]) (vals:= [.pointer (some ⟨S,0,none⟩)]) mixed selement_run selement_ok h.kold
  ⟨zaV ho (zbO hd hb hsv.one hj2 (zbz (zaa (zaK hj1) RL.nil) RL.nil)) (.inl rfl),zcl h.srv (.inr (.inl rfl)),trivial⟩ h.apart (zbb h.mem h.mine)
  ⟨zb0 (fun j=>R_rg hrg) ea (fun w=>by rw [er];exact zqW r hrg _ ⟨hm0,hm1⟩ w),zgz (k:=8) h.hN hd.p ea (by omega) (.inr (.inr (.inr rfl))) (by omega) eu (.inr (.inr rfl)),trivial⟩ (zaa (zaK hj1) RL.nil) (told_nil.2 trivial)) fun e w' hh=> ?_
 obtain ⟨p,hpm,hto,l,hl,j,he⟩:=hh
 have hj1':=he.sub _ _ hj1
 have hj2':=he.sub _ _ hj2
 have lc1:=zad hj1'
 have lc2:=zad hj2'
 have hmv:=he.mv
 have hkA:=h.kA hmv
 obtain ⟨g',hg0,hgm⟩:=zcK he.gho
 unfold selement_ps at hpm
 simp only [List.mem_cons,List.not_mem_nil,or_false] at hpm
 rcases hpm with rfl
 all_goals
  simp only [told_cons_iff,told_nil,zaP,zbS,zau,zax,zac,hd.n,hd.nx,hd.b0,zaC,decide_eq_true_eq,decide_eq_false_iff_not,and_true] at hto
  cases hl
  have hO:=(he.rows.1 _ hj1').2 (.inr (.inl rfl)) rfl
  have hM:=he.maps.1 _ hj2'
  cases hg0
  simp only [AV.val,AV.valL,lc1,lc2,hd.n,hd.d,hd.v,hd.c,hd.nx,hd.us,hd.hd,hd.wr,hd.p,hd.sv,zai,zac,den_add,zax,zaC,zau,zby,hd.op,hd.b0,hd.b1,hd.b2,hd.b3,hd.b4,hd.b5] at hO
 ·exact ⟨he.ret.trans (by simp only [AV.val,AV.valL,er,zac];rfl),h.next hmv hgm ⟨_,_,hO,h.fenceOk he hj1 hj2 (.head _) (.head _) (x:=6) (y:=5) (f:=89) (.tail _ (.tail _ (.head _))) (.tail _ (.head _)) (.tail _ (.tail _ (.head _))) (.tail _ (.head _)) (by decide) (by decide) (by decide) (by decide) rfl,hsv.kept hkA⟩ (h.srv.tk.same hkA hM) h.srv.nx h.srv.us h.srv.hd h.srv.wr,hmv⟩
set_option maxHeartbeats 1000000 in
theorem Tryz.zow {A:Nat→Prop} {w:World} {S P L Bs B M N:Nat} {r:Rg} {s:SS} {g:Nat→Int} (h:SW A w S P L Bs B M N r s g) (hb:s.br=false) (hp:s.ph=13):
  Calls prog 28 #[.pointer (some ⟨S,0,none⟩)] w fun e w'=>e= .returned (.tuple #[accV 3 7 0,.int .i64 0])∧SW A w' S P L Bs B M N r (({ s with us:=(s.us+1)%65536 }:SS).goto 14) (putW g (r.c+2).toNat 2 ((s.us+1)%65536))∧Dw.Mv (sK S M B) w w':=by
 obtain ⟨nv,sv,ho,hn,hsv⟩:=h.srv.obj
 have hrg:=h.srv.rg
 have hbd:=hrg.bnd
 have hf:=h.fit
 have hrv:=hrg.v0
 have hrc:=hrg.c0
 have hN:=h.hN
 have hd:=za6 h.srv (r.c+2) 0 (.pointer (some ⟨P,0,none⟩)) sv undef
 have ea:(u64v 10).den (srho r s (r.c+2) 0 (.pointer (some ⟨P,0,none⟩)) sv undef)=(r.c+2):=zav (by show 0≤(r.c+2);omega) (by show (r.c+2)<_;omega)
 have hnv:nv=zf6 S 89:=by
  rw [hp] at hn
  cases hn with
  | idle h _=>cases h
  | meth f h hv=>cases h;exact hv
  | fence f _ _ h=>cases h
 subst hnv
 have hj2:jOf [(S,0),(M,0)] 2=some ⟨M,0,0,none⟩:=rfl
 have hj1:jOf [(S,0),(M,0)] 1=some ⟨S,0,0,none⟩:=rfl
 refine Calls.mono (zap (ρ:=(srho r s (r.c+2) 0 (.pointer (some ⟨P,0,none⟩)) sv undef)) (K:=sK S M B) (g:=memG P L Bs B N [g,putW g (r.c+2).toNat 2 ((s.us+1)%65536)]) (bl:= [(S,0),(M,0)]) (vals:= [.pointer (some ⟨S,0,none⟩)]) mixed sindex_run sindex_ok h.kold
  ⟨zaV ho (zbO hd hb hsv.one hj2 (zbz (zaa (zaK hj1) RL.nil) RL.nil)) (.inl rfl),zcl h.srv (.inr (.inl rfl)),trivial⟩ h.apart (zbb h.mem h.mine)
  ⟨zb0 (fun j=>R_rg hrg) ea (fun w=>zqX r hrg w),zgz (k:=2) h.hN hd.p ea (by omega) (.inr (.inl rfl)) (by omega) (by rw [den_add,hd.us,zac,zaC]) (.inr (.inr rfl)),trivial⟩ (zaa (zaK hj1) RL.nil) (told_nil.2 trivial)) fun e w' hh=> ?_
 obtain ⟨p,hpm,hto,l,hl,j,he⟩:=hh
 have hj1':=he.sub _ _ hj1
 have hj2':=he.sub _ _ hj2
 have lc1:=zad hj1'
 have lc2:=zad hj2'
 have hmv:=he.mv
 have hkA:=h.kA hmv
 obtain ⟨g',hg0,hgm⟩:=zcK he.gho
 unfold sindex_ps at hpm
 simp only [List.mem_cons,List.not_mem_nil,or_false] at hpm
 rcases hpm with rfl
 all_goals
  simp only [told_cons_iff,told_nil,zaP,zbS,zau,zax,zac,hd.n,hd.nx,hd.b0,zaC,decide_eq_true_eq,decide_eq_false_iff_not,and_true] at hto
  cases hl
  have hO:=(he.rows.1 _ hj1').2 (.inr (.inl rfl)) rfl
  have hM:=he.maps.1 _ hj2'
  cases hg0
  simp only [AV.val,AV.valL,lc1,lc2,hd.n,hd.d,hd.v,hd.c,hd.nx,hd.us,hd.hd,hd.wr,hd.p,hd.sv,zai,zac,den_add,zax,zaC,zau,zby,hd.op,hd.b0,hd.b1,hd.b2,hd.b3,hd.b4,hd.b5] at hO
 ·exact ⟨he.ret,h.next hmv hgm ⟨_,_,hO,h.fenceOk he hj1 hj2 (.head _) (.head _) (x:=6) (y:=5) (f:=119) (.tail _ (.tail _ (.head _))) (.tail _ (.head _)) (.tail _ (.tail _ (.head _))) (.tail _ (.head _)) (by decide) (by decide) (by decide) (by decide) rfl,hsv.kept hkA⟩ (h.srv.tk.same hkA hM) h.srv.nx (by show 0≤(s.us+1)%65536∧(s.us+1)%65536<65536;omega) h.srv.hd h.srv.wr,hmv⟩
set_option maxHeartbeats 1000000 in
theorem Tryz.znx {A:Nat→Prop} {w:World} {S P L Bs B M N:Nat} {r:Rg} {s:SS} {g:Nat→Int} (h:SW A w S P L Bs B M N r s g) (hb:s.br=false) (hp:s.ph=15) (hev:s.ev=false):
  Calls prog 28 #[.pointer (some ⟨S,0,none⟩)] w fun e w'=>e= .returned (.tuple #[accV 2 2 0,.int .i64 0])∧SW A w' S P L Bs B M N r (zjc r g s) g∧Dw.Mv (sK S M B) w w':=by
 obtain ⟨nv,sv,ho,hn,hsv⟩:=h.srv.obj
 have hrg:=h.srv.rg
 have hbd:=hrg.bnd
 have hf:=h.fit
 have hrv:=hrg.v0
 have hrc:=hrg.c0
 have hN:=h.hN
 obtain ⟨hx0,hx1⟩:=zoY h.mem.byte (r.v).toNat
 generalize hxx:zaf g (r.v).toNat 2=x at hx0 hx1
 have hd:=za6 h.srv r.v x (.pointer (some ⟨P,0,none⟩)) sv undef
 have ea:(u64v 10).den (srho r s r.v x (.pointer (some ⟨P,0,none⟩)) sv undef)=r.v:=zav (by show 0≤r.v;omega) (by show r.v<_;omega)
 have ex:(u16v 11).den (srho r s r.v x (.pointer (some ⟨P,0,none⟩)) sv undef)=x:=zaW hx0 hx1
 have hxl:SE.den (srho r s r.v x (.pointer (some ⟨P,0,none⟩)) sv undef) (.flds [⟨11,0,65535,0,1,0⟩] 0)=x%2:=zsG hx0 hx1
 have hnv:nv=zf6 S 119:=by
  rw [hp] at hn
  cases hn with
  | idle h _=>cases h
  | meth f h hv=>cases h;exact hv
  | fence f _ _ h=>cases h
 subst hnv
 have hj2:jOf [(S,0),(M,0)] 2=some ⟨M,0,0,none⟩:=rfl
 have hj1:jOf [(S,0),(M,0)] 1=some ⟨S,0,0,none⟩:=rfl
 refine Calls.mono (zap (ρ:=(srho r s r.v x (.pointer (some ⟨P,0,none⟩)) sv undef)) (K:=sK S M B) (g:=memG P L Bs B N [g]) (bl:= [(S,0),(M,0)]) (vals:= [.pointer (some ⟨S,0,none⟩)]) mixed stellF_run stellF_ok h.kold
  ⟨zaV ho (zbO hd hb hsv.one hj2 (zbz (zaa (zaK hj1) RL.nil) RL.nil)) (.inl rfl),zcl h.srv (.inr (.inl rfl)),trivial⟩ h.apart (zbb h.mem h.mine)
  ⟨zb0 (fun j=>R_rg hrg) ea (fun w=>zq0 r hrg w),ze3 h.hN hd.p ea (by omega) (by omega) (ex.trans hxx.symm),trivial⟩ (zaa (zaK hj1) RL.nil) (told_cons_iff.2 ⟨by rw [zau,hd.b0,hev],told_nil.2 trivial⟩)) fun e w' hh=> ?_
 obtain ⟨p,hpm,hto,l,hl,j,he⟩:=hh
 have hj1':=he.sub _ _ hj1
 have hj2':=he.sub _ _ hj2
 have lc1:=zad hj1'
 have lc2:=zad hj2'
 have hmv:=he.mv
 have hkA:=h.kA hmv
 obtain ⟨g',hg0,hgm⟩:=zcK he.gho
 unfold stellF_ps at hpm
 simp only [List.mem_cons,List.not_mem_nil,or_false] at hpm
 rcases hpm with rfl
 all_goals
  simp only [told_cons_iff,told_nil,zaP,zbS,zau,zax,zac,hd.n,hd.nx,hd.b0,ex,zaC,decide_eq_true_eq,decide_eq_false_iff_not,and_true] at hto
  cases hl
  have hO:=(he.rows.1 _ hj1').2 (.inr (.inl rfl)) rfl
  have hM:=he.maps.1 _ hj2'
  cases hg0
  simp only [AV.val,AV.valL,lc1,lc2,hd.n,hd.d,hd.v,hd.c,hd.nx,hd.us,hd.hd,hd.wr,hd.p,hd.sv,zai,zac,den_add,zax,zaC,zau,zby,hd.op,hd.b0,hd.b1,hd.b2,hd.b3,hd.b4,hd.b5,zbm,hxl] at hO
 ·have e1:zjc r g s=({ s with it:=x%2==0,tk:=zfo s.hd s.tk }:SS).stop:=by unfold zjc zrt;rw [hev,if_neg (by decide),hxx]
  rw [e1]
  exact ⟨he.ret,h.next hmv hgm ⟨_,_,hO,.idle rfl rfl,hsv.kept hkA⟩ (h.srv.tk.del hkA (by obtain ⟨arr,clock,arr0,clock0,q1,q2,q3,q4⟩:=hM;refine ⟨arr,clock,arr0,clock0,q1,q2,q3,fun k=> ?_⟩;have:=q4 k;simp only [ze2,AV.val,hd.hd,Option.map,mlog] at this;exact this)) h.srv.nx h.srv.us h.srv.hd h.srv.wr,hmv⟩
set_option maxHeartbeats 1000000 in
theorem Tryz.zny {A:Nat→Prop} {w:World} {S P L Bs B M N:Nat} {r:Rg} {s:SS} {g:Nat→Int} (h:SW A w S P L Bs B M N r s g) (hb:s.br=false) (hp:s.ph=15) (hev:s.ev=true):
  Calls prog 28 #[.pointer (some ⟨S,0,none⟩)] w fun e w'=>e= .returned (.tuple #[accV 2 5 0,.int .i64 0])∧SW A w' S P L Bs B M N r (zjc r g s) g∧Dw.Mv (sK S M B) w w':=by
 obtain ⟨nv,sv,ho,hn,hsv⟩:=h.srv.obj
 have hrg:=h.srv.rg
 have hbd:=hrg.bnd
 have hf:=h.fit
 have hrv:=hrg.v0
 have hrc:=hrg.c0
 have hN:=h.hN
 obtain ⟨hx0,hx1⟩:=zoY h.mem.byte (r.v+4+2*r.n).toNat
 generalize hxx:zaf g (r.v+4+2*r.n).toNat 2=x at hx0 hx1
 have hd:=za6 h.srv (r.v+4+2*r.n) x (.pointer (some ⟨P,0,none⟩)) sv undef
 have ea:(u64v 10).den (srho r s (r.v+4+2*r.n) x (.pointer (some ⟨P,0,none⟩)) sv undef)=(r.v+4+2*r.n):=zav (by show 0≤(r.v+4+2*r.n);omega) (by show (r.v+4+2*r.n)<_;omega)
 have ex:(u16v 11).den (srho r s (r.v+4+2*r.n) x (.pointer (some ⟨P,0,none⟩)) sv undef)=x:=zaW hx0 hx1
 have hnv:nv=zf6 S 119:=by
  rw [hp] at hn
  cases hn with
  | idle h _=>cases h
  | meth f h hv=>cases h;exact hv
  | fence f _ _ h=>cases h
 subst hnv
 have hj2:jOf [(S,0),(M,0)] 2=some ⟨M,0,0,none⟩:=rfl
 have hj1:jOf [(S,0),(M,0)] 1=some ⟨S,0,0,none⟩:=rfl
 refine Calls.mono (zap (ρ:=(srho r s (r.v+4+2*r.n) x (.pointer (some ⟨P,0,none⟩)) sv undef)) (K:=sK S M B) (g:=memG P L Bs B N [g]) (bl:= [(S,0),(M,0)]) (vals:= [.pointer (some ⟨S,0,none⟩)]) mixed stellE_run stellE_ok h.kold
  ⟨zaV ho (zbO hd hb hsv.one hj2 (zbz (zaa (zaK hj1) RL.nil) RL.nil)) (.inl rfl),zcl h.srv (.inr (.inl rfl)),trivial⟩ h.apart (zbb h.mem h.mine)
  ⟨zb0 (fun j=>R_rg hrg) ea (fun w=>zqY r hrg w),ze3 h.hN hd.p ea (by omega) (by omega) (ex.trans hxx.symm),trivial⟩ (zaa (zaK hj1) RL.nil) (told_cons_iff.2 ⟨by rw [zau,hd.b0,hev],told_nil.2 trivial⟩)) fun e w' hh=> ?_
 obtain ⟨p,hpm,hto,l,hl,j,he⟩:=hh
 have hj1':=he.sub _ _ hj1
 have hj2':=he.sub _ _ hj2
 have lc1:=zad hj1'
 have lc2:=zad hj2'
 have hmv:=he.mv
 have hkA:=h.kA hmv
 obtain ⟨g',hg0,hgm⟩:=zcK he.gho
 unfold stellE_ps at hpm
 simp only [List.mem_cons,List.not_mem_nil,or_false] at hpm
 rcases hpm with rfl
 all_goals
  simp only [told_cons_iff,told_nil,zaP,zbS,zau,zax,zac,hd.n,hd.nx,hd.b0,ex,zaC,decide_eq_true_eq,decide_eq_false_iff_not,and_true] at hto
  cases hl
  have hO:=(he.rows.1 _ hj1').2 (.inr (.inl rfl)) rfl
  have hM:=he.maps.1 _ hj2'
  cases hg0
  simp only [AV.val,AV.valL,lc1,lc2,hd.n,hd.d,hd.v,hd.c,hd.nx,hd.us,hd.hd,hd.wr,hd.p,hd.sv,zai,zac,den_add,zax,zaC,zau,zby,hd.op,hd.b0,hd.b1,hd.b2,hd.b3,hd.b4,hd.b5,zaz,ex] at hO
 ·have e1:zjc r g s=({ s with it:=decide (((s.us-x)%65536-1)%65536<(s.us-(s.us-1)%65536)%65536),tk:=zfo s.hd s.tk }:SS).stop:=by
   unfold zjc zrt
   rw [hev,if_pos rfl,hxx,zrs h.srv.us]
  rw [e1]
  exact ⟨he.ret,h.next hmv hgm ⟨_,_,hO,.idle rfl rfl,hsv.kept hkA⟩ (h.srv.tk.del hkA (by obtain ⟨arr,clock,arr0,clock0,q1,q2,q3,q4⟩:=hM;refine ⟨arr,clock,arr0,clock0,q1,q2,q3,fun k=> ?_⟩;have:=q4 k;simp only [ze2,AV.val,hd.hd,Option.map,mlog] at this;exact this)) h.srv.nx h.srv.us h.srv.hd h.srv.wr,hmv⟩
set_option maxHeartbeats 1000000 in
theorem Tryz.znc {A:Nat→Prop} {w:World} {S P L Bs B M N:Nat} {r:Rg} {s:SS} {g:Nat→Int} (h:SW A w S P L Bs B M N r s g) (hb:s.br=false) (hp:s.ph=3):
  Calls prog 28 #[.pointer (some ⟨S,0,none⟩)] w fun e w'=>e= .returned (.tuple #[accV 4 0 0,.int .i64 0])∧SW A w' S P L Bs B M N r (s.goto 4) g∧Dw.Mv (sK S M B) w w':=by
 obtain ⟨nv,sv,ho,hn,hsv⟩:=h.srv.obj
 have hrg:=h.srv.rg
 have hbd:=hrg.bnd
 have hf:=h.fit
 have hrv:=hrg.v0
 have hrc:=hrg.c0
 have hN:=h.hN
 have hd:=za6 h.srv 0 0 (.pointer (some ⟨P,0,none⟩)) sv undef
 rw [hp] at hn
 cases hn with
 | idle h _=>cases h
 | meth f h hv=>cases h
 | fence f X Y h0 hv hX hY aX aY=>
 cases h0
 subst hv
 have hj2:jOf [(S,0),(M,0),(X,0),(Y,0)] 2=some ⟨M,0,0,none⟩:=rfl
 have hj1:jOf [(S,0),(M,0),(X,0),(Y,0)] 1=some ⟨S,0,0,none⟩:=rfl
 have hj3:jOf [(S,0),(M,0),(X,0),(Y,0)] 3=some ⟨X,0,0,none⟩:=rfl
 have hj4:jOf [(S,0),(M,0),(X,0),(Y,0)] 4=some ⟨Y,0,0,none⟩:=rfl
 have kX: ¬(X=S∨X=M):=fun hh=>aX (by rcases hh with rfl|rfl;exact h.srv.aS;exact h.srv.aM)
 have kY: ¬(Y=S∨Y=M):=fun hh=>aY (by rcases hh with rfl|rfl;exact h.srv.aS;exact h.srv.aM)
 refine Calls.mono (zap (ρ:=(srho r s 0 0 (.pointer (some ⟨P,0,none⟩)) sv undef)) (K:=fun b=>b=S∨b=M) (g:=Gho.none) (bl:= [(S,0),(M,0),(X,0),(Y,0)]) (vals:= [.pointer (some ⟨S,0,none⟩)]) mixed sfence3_run sfence3_ok (fun b hb=>h.kold b (hb.imp_right .inl))
  ⟨zaV ho (zbO hd hb hsv.one hj2 (zbz RL.nil (zaa (zaK hj3) (zaa (zaK hj4) RL.nil)))) (.inl rfl),zcl h.srv (.inr rfl),zjl hX (zaa (zbz (zaa (zaK hj1) RL.nil) RL.nil) RL.nil) kX,zjl hY (zaa (zaK hj1) RL.nil) kY,trivial⟩ h.apartF zas
  trivial (zaa (zaK hj1) RL.nil) (told_nil.2 trivial)) fun e w' hh=> ?_
 obtain ⟨p,hpm,hto,l,hl,j,he⟩:=hh
 have hj1':=he.sub _ _ hj1
 have hj2':=he.sub _ _ hj2
 have lc1:=zad hj1'
 have lc2:=zad hj2'
 have hmw:=he.mv
 have hmv:Dw.Mv (sK S M B) w w':=hmw.mono fun b hb=>hb.imp_right .inl
 have hkA:=h.kA hmv
 have hgm:=h.mem.kept (fun k hk hk'=>hmw.block k hk (h.kmem k hk')) hmv.size
 unfold sfence3_ps at hpm
 simp only [List.mem_cons,List.not_mem_nil,or_false] at hpm
 rcases hpm with rfl
 all_goals
  simp only [told_cons_iff,told_nil,zaP,zbS,zau,zax,zac,hd.n,hd.nx,hd.b0,zaC,decide_eq_true_eq,decide_eq_false_iff_not,and_true] at hto
  cases hl
  have hO:=(he.rows.1 _ hj1').2 (.inr (.inl rfl)) rfl
  have hM:=he.maps.1 _ hj2'
  simp only [AV.val,AV.valL,lc1,lc2,hd.n,hd.d,hd.v,hd.c,hd.nx,hd.us,hd.hd,hd.wr,hd.p,hd.sv,zai,zac,den_add,zax,zaC,zau,zby,hd.op,hd.b0,hd.b1,hd.b2,hd.b3,hd.b4,hd.b5] at hO
 ·exact ⟨he.ret,h.next hmv hgm ⟨_,_,hO,.meth _ rfl rfl,hsv.kept hkA⟩ (h.srv.tk.same hkA hM) h.srv.nx h.srv.us h.srv.hd h.srv.wr,hmv⟩
set_option maxHeartbeats 1000000 in
theorem Tryz.znb {A:Nat→Prop} {w:World} {S P L Bs B M N:Nat} {r:Rg} {s:SS} {g:Nat→Int} (h:SW A w S P L Bs B M N r s g) (hb:s.br=false) (hp:s.ph=5):
  Calls prog 28 #[.pointer (some ⟨S,0,none⟩)] w fun e w'=>e= .returned (.tuple #[accV 4 0 0,.int .i64 0])∧SW A w' S P L Bs B M N r (s.goto 6) g∧Dw.Mv (sK S M B) w w':=by
 obtain ⟨nv,sv,ho,hn,hsv⟩:=h.srv.obj
 have hrg:=h.srv.rg
 have hbd:=hrg.bnd
 have hf:=h.fit
 have hrv:=hrg.v0
 have hrc:=hrg.c0
 have hN:=h.hN
 have hd:=za6 h.srv 0 0 (.pointer (some ⟨P,0,none⟩)) sv undef
 rw [hp] at hn
 cases hn with
 | idle h _=>cases h
 | meth f h hv=>cases h
 | fence f X Y h0 hv hX hY aX aY=>
 cases h0
 subst hv
 have hj2:jOf [(S,0),(M,0),(X,0),(Y,0)] 2=some ⟨M,0,0,none⟩:=rfl
 have hj1:jOf [(S,0),(M,0),(X,0),(Y,0)] 1=some ⟨S,0,0,none⟩:=rfl
 have hj3:jOf [(S,0),(M,0),(X,0),(Y,0)] 3=some ⟨X,0,0,none⟩:=rfl
 have hj4:jOf [(S,0),(M,0),(X,0),(Y,0)] 4=some ⟨Y,0,0,none⟩:=rfl
 have kX: ¬(X=S∨X=M):=fun hh=>aX (by rcases hh with rfl|rfl;exact h.srv.aS;exact h.srv.aM)
 have kY: ¬(Y=S∨Y=M):=fun hh=>aY (by rcases hh with rfl|rfl;exact h.srv.aS;exact h.srv.aM)
 refine Calls.mono (zap (ρ:=(srho r s 0 0 (.pointer (some ⟨P,0,none⟩)) sv undef)) (K:=fun b=>b=S∨b=M) (g:=Gho.none) (bl:= [(S,0),(M,0),(X,0),(Y,0)]) (vals:= [.pointer (some ⟨S,0,none⟩)]) mixed sfence5_run sfence5_ok (fun b hb=>h.kold b (hb.imp_right .inl))
  ⟨zaV ho (zbO hd hb hsv.one hj2 (zbz RL.nil (zaa (zaK hj3) (zaa (zaK hj4) RL.nil)))) (.inl rfl),zcl h.srv (.inr rfl),zjl hX (zaa (zbz (zaa (zaK hj1) RL.nil) RL.nil) RL.nil) kX,zjl hY (zaa (zaK hj1) RL.nil) kY,trivial⟩ h.apartF zas
  trivial (zaa (zaK hj1) RL.nil) (told_nil.2 trivial)) fun e w' hh=> ?_
 obtain ⟨p,hpm,hto,l,hl,j,he⟩:=hh
 have hj1':=he.sub _ _ hj1
 have hj2':=he.sub _ _ hj2
 have lc1:=zad hj1'
 have lc2:=zad hj2'
 have hmw:=he.mv
 have hmv:Dw.Mv (sK S M B) w w':=hmw.mono fun b hb=>hb.imp_right .inl
 have hkA:=h.kA hmv
 have hgm:=h.mem.kept (fun k hk hk'=>hmw.block k hk (h.kmem k hk')) hmv.size
 unfold sfence5_ps at hpm
 simp only [List.mem_cons,List.not_mem_nil,or_false] at hpm
 rcases hpm with rfl
 all_goals
  simp only [told_cons_iff,told_nil,zaP,zbS,zau,zax,zac,hd.n,hd.nx,hd.b0,zaC,decide_eq_true_eq,decide_eq_false_iff_not,and_true] at hto
  cases hl
  have hO:=(he.rows.1 _ hj1').2 (.inr (.inl rfl)) rfl
  have hM:=he.maps.1 _ hj2'
  simp only [AV.val,AV.valL,lc1,lc2,hd.n,hd.d,hd.v,hd.c,hd.nx,hd.us,hd.hd,hd.wr,hd.p,hd.sv,zai,zac,den_add,zax,zaC,zau,zby,hd.op,hd.b0,hd.b1,hd.b2,hd.b3,hd.b4,hd.b5] at hO
 ·exact ⟨he.ret,h.next hmv hgm ⟨_,_,hO,.meth _ rfl rfl,hsv.kept hkA⟩ (h.srv.tk.same hkA hM) h.srv.nx h.srv.us h.srv.hd h.srv.wr,hmv⟩
set_option maxHeartbeats 1000000 in
theorem Tryz.zlv {A:Nat→Prop} {w:World} {S P L Bs B M N:Nat} {r:Rg} {s:SS} {g:Nat→Int} (h:SW A w S P L Bs B M N r s g) (hb:s.br=false) (hp:s.ph=12):
  Calls prog 28 #[.pointer (some ⟨S,0,none⟩)] w fun e w'=>e= .returned (.tuple #[accV 4 0 0,.int .i64 0])∧SW A w' S P L Bs B M N r (s.goto 13) g∧Dw.Mv (sK S M B) w w':=by
 obtain ⟨nv,sv,ho,hn,hsv⟩:=h.srv.obj
 have hrg:=h.srv.rg
 have hbd:=hrg.bnd
 have hf:=h.fit
 have hrv:=hrg.v0
 have hrc:=hrg.c0
 have hN:=h.hN
 have hd:=za6 h.srv 0 0 (.pointer (some ⟨P,0,none⟩)) sv undef
 rw [hp] at hn
 cases hn with
 | idle h _=>cases h
 | meth f h hv=>cases h
 | fence f X Y h0 hv hX hY aX aY=>
 cases h0
 subst hv
 have hj2:jOf [(S,0),(M,0),(X,0),(Y,0)] 2=some ⟨M,0,0,none⟩:=rfl
 have hj1:jOf [(S,0),(M,0),(X,0),(Y,0)] 1=some ⟨S,0,0,none⟩:=rfl
 have hj3:jOf [(S,0),(M,0),(X,0),(Y,0)] 3=some ⟨X,0,0,none⟩:=rfl
 have hj4:jOf [(S,0),(M,0),(X,0),(Y,0)] 4=some ⟨Y,0,0,none⟩:=rfl
 have kX: ¬(X=S∨X=M):=fun hh=>aX (by rcases hh with rfl|rfl;exact h.srv.aS;exact h.srv.aM)
 have kY: ¬(Y=S∨Y=M):=fun hh=>aY (by rcases hh with rfl|rfl;exact h.srv.aS;exact h.srv.aM)
 refine Calls.mono (zap (ρ:=(srho r s 0 0 (.pointer (some ⟨P,0,none⟩)) sv undef)) (K:=fun b=>b=S∨b=M) (g:=Gho.none) (bl:= [(S,0),(M,0),(X,0),(Y,0)]) (vals:= [.pointer (some ⟨S,0,none⟩)]) mixed sfence12_run sfence12_ok (fun b hb=>h.kold b (hb.imp_right .inl))
  ⟨zaV ho (zbO hd hb hsv.one hj2 (zbz RL.nil (zaa (zaK hj3) (zaa (zaK hj4) RL.nil)))) (.inl rfl),zcl h.srv (.inr rfl),zjl hX (zaa (zbz (zaa (zaK hj1) RL.nil) RL.nil) RL.nil) kX,zjl hY (zaa (zaK hj1) RL.nil) kY,trivial⟩ h.apartF zas
  trivial (zaa (zaK hj1) RL.nil) (told_nil.2 trivial)) fun e w' hh=> ?_
 obtain ⟨p,hpm,hto,l,hl,j,he⟩:=hh
 have hj1':=he.sub _ _ hj1
 have hj2':=he.sub _ _ hj2
 have lc1:=zad hj1'
 have lc2:=zad hj2'
 have hmw:=he.mv
 have hmv:Dw.Mv (sK S M B) w w':=hmw.mono fun b hb=>hb.imp_right .inl
 have hkA:=h.kA hmv
 have hgm:=h.mem.kept (fun k hk hk'=>hmw.block k hk (h.kmem k hk')) hmv.size
 unfold sfence12_ps at hpm
 simp only [List.mem_cons,List.not_mem_nil,or_false] at hpm
 rcases hpm with rfl
 all_goals
  simp only [told_cons_iff,told_nil,zaP,zbS,zau,zax,zac,hd.n,hd.nx,hd.b0,zaC,decide_eq_true_eq,decide_eq_false_iff_not,and_true] at hto
  cases hl
  have hO:=(he.rows.1 _ hj1').2 (.inr (.inl rfl)) rfl
  have hM:=he.maps.1 _ hj2'
  simp only [AV.val,AV.valL,lc1,lc2,hd.n,hd.d,hd.v,hd.c,hd.nx,hd.us,hd.hd,hd.wr,hd.p,hd.sv,zai,zac,den_add,zax,zaC,zau,zby,hd.op,hd.b0,hd.b1,hd.b2,hd.b3,hd.b4,hd.b5] at hO
 ·exact ⟨he.ret,h.next hmv hgm ⟨_,_,hO,.meth _ rfl rfl,hsv.kept hkA⟩ (h.srv.tk.same hkA hM) h.srv.nx h.srv.us h.srv.hd h.srv.wr,hmv⟩
set_option maxHeartbeats 1000000 in
theorem Tryz.zlu {A:Nat→Prop} {w:World} {S P L Bs B M N:Nat} {r:Rg} {s:SS} {g:Nat→Int} (h:SW A w S P L Bs B M N r s g) (hb:s.br=false) (hp:s.ph=14):
  Calls prog 28 #[.pointer (some ⟨S,0,none⟩)] w fun e w'=>e= .returned (.tuple #[accV 4 0 0,.int .i64 0])∧SW A w' S P L Bs B M N r (s.goto 15) g∧Dw.Mv (sK S M B) w w':=by
 obtain ⟨nv,sv,ho,hn,hsv⟩:=h.srv.obj
 have hrg:=h.srv.rg
 have hbd:=hrg.bnd
 have hf:=h.fit
 have hrv:=hrg.v0
 have hrc:=hrg.c0
 have hN:=h.hN
 have hd:=za6 h.srv 0 0 (.pointer (some ⟨P,0,none⟩)) sv undef
 rw [hp] at hn
 cases hn with
 | idle h _=>cases h
 | meth f h hv=>cases h
 | fence f X Y h0 hv hX hY aX aY=>
 cases h0
 subst hv
 have hj2:jOf [(S,0),(M,0),(X,0),(Y,0)] 2=some ⟨M,0,0,none⟩:=rfl
 have hj1:jOf [(S,0),(M,0),(X,0),(Y,0)] 1=some ⟨S,0,0,none⟩:=rfl
 have hj3:jOf [(S,0),(M,0),(X,0),(Y,0)] 3=some ⟨X,0,0,none⟩:=rfl
 have hj4:jOf [(S,0),(M,0),(X,0),(Y,0)] 4=some ⟨Y,0,0,none⟩:=rfl
 have kX: ¬(X=S∨X=M):=fun hh=>aX (by rcases hh with rfl|rfl;exact h.srv.aS;exact h.srv.aM)
 have kY: ¬(Y=S∨Y=M):=fun hh=>aY (by rcases hh with rfl|rfl;exact h.srv.aS;exact h.srv.aM)
 refine Calls.mono (zap (ρ:=(srho r s 0 0 (.pointer (some ⟨P,0,none⟩)) sv undef)) (K:=fun b=>b=S∨b=M) (g:=Gho.none) (bl:= [(S,0),(M,0),(X,0),(Y,0)]) (vals:= [.pointer (some ⟨S,0,none⟩)]) mixed sfence14_run sfence14_ok (fun b hb=>h.kold b (hb.imp_right .inl))
  ⟨zaV ho (zbO hd hb hsv.one hj2 (zbz RL.nil (zaa (zaK hj3) (zaa (zaK hj4) RL.nil)))) (.inl rfl),zcl h.srv (.inr rfl),zjl hX (zaa (zbz (zaa (zaK hj1) RL.nil) RL.nil) RL.nil) kX,zjl hY (zaa (zaK hj1) RL.nil) kY,trivial⟩ h.apartF zas
  trivial (zaa (zaK hj1) RL.nil) (told_nil.2 trivial)) fun e w' hh=> ?_
 obtain ⟨p,hpm,hto,l,hl,j,he⟩:=hh
 have hj1':=he.sub _ _ hj1
 have hj2':=he.sub _ _ hj2
 have lc1:=zad hj1'
 have lc2:=zad hj2'
 have hmw:=he.mv
 have hmv:Dw.Mv (sK S M B) w w':=hmw.mono fun b hb=>hb.imp_right .inl
 have hkA:=h.kA hmv
 have hgm:=h.mem.kept (fun k hk hk'=>hmw.block k hk (h.kmem k hk')) hmv.size
 unfold sfence14_ps at hpm
 simp only [List.mem_cons,List.not_mem_nil,or_false] at hpm
 rcases hpm with rfl
 all_goals
  simp only [told_cons_iff,told_nil,zaP,zbS,zau,zax,zac,hd.n,hd.nx,hd.b0,zaC,decide_eq_true_eq,decide_eq_false_iff_not,and_true] at hto
  cases hl
  have hO:=(he.rows.1 _ hj1').2 (.inr (.inl rfl)) rfl
  have hM:=he.maps.1 _ hj2'
  simp only [AV.val,AV.valL,lc1,lc2,hd.n,hd.d,hd.v,hd.c,hd.nx,hd.us,hd.hd,hd.wr,hd.p,hd.sv,zai,zac,den_add,zax,zaC,zau,zby,hd.op,hd.b0,hd.b1,hd.b2,hd.b3,hd.b4,hd.b5] at hO
 ·exact ⟨he.ret,h.next hmv hgm ⟨_,_,hO,.meth _ rfl rfl,hsv.kept hkA⟩ (h.srv.tk.same hkA hM) h.srv.nx h.srv.us h.srv.hd h.srv.wr,hmv⟩
end Go.Proofs
namespace Go.Proofs
open Go.Dw Go.RowKit

theorem Tryz.znw (a m:Int) (hm:0<m):((if a.tmod m<0 then a.tmod m+m else a.tmod m)=a%m)∧ -m<a.tmod m∧a.tmod m<m:=by
 rw [Int.tmod_eq_emod]
 have h1:=Int.emod_nonneg a (Int.ne_of_gt hm)
 have h2:=Int.emod_lt_of_pos a hm
 have h3:((m.natAbs:Nat):Int)=m:=Int.natAbs_of_nonneg (Int.le_of_lt hm)
 by_cases h:0≤a∨m ∣ a
 ·rw [if_pos h];simp only [Int.sub_zero,Int.ofNat_zero];refine ⟨?_,?_,?_⟩<;>first|omega|(split<;>omega)
 ·rw [if_neg h,h3]
  have h4:a%m≠0:=fun h0=>h (.inr (Int.dvd_of_emod_eq_zero h0))
  refine ⟨?_,?_,?_⟩<;>first|omega|(split<;>omega)
set_option maxRecDepth 100000 in
theorem Tryz.zdc (a m:Int) (hm:1≤m∧m≤1000000) (w:World):
  Calls prog 7 #[.int .i64 a,.int .i64 m] w fun e w'=>e= .returned (.int .i64 (a%m))∧w'=w:=by
 obtain ⟨hr,hlo,hhi⟩:=znw a m (by omega)
 have hq:IntKind.i64.wrap (a.tmod m)=a.tmod m:=zbM (by omega) (by omega)
 have hm0:m≠0:=by omega
 have hm1: ¬m<1:=by omega
 by_cases h0:a.tmod m<0
 ·rw [if_pos h0] at hr
  have hq2:IntKind.i64.wrap (a.tmod m+m)=a.tmod m+m:=zbM (by omega) (by omega)
  rw [←hr]
  go_enter func7,ntmps7
  go_wp2
  go_ret
  exact ⟨rfl,rfl⟩
 ·rw [if_neg h0] at hr
  rw [←hr]
  go_enter func7,ntmps7
  go_wp2
  go_ret
  exact ⟨rfl,rfl⟩
end Go.Proofs
namespace Go.Dw
open Go.RowKit

structure LEnd where
 test:SB
 ex:Ex
 slots:List (Nat×AV)
 gs:Nat
structure LEnt where
 p:List Nat
 n:Nat
 gs:Nat
 slots:List (Nat×AV)
 keep:List Nat
 rows:List (Nat×List AV)
 base:Nat
 nopq:Nat
 ends:List LEnd
def getE (env:T AV) (t:Nat):AV:=
 match env.get t with
 | some v=>v
 | none=>undefA
def junkE:Nat→T AV→T AV
 | 0,t=>t
 | n+1,t=>junkE n (t.set n .junk)
def zli (env:T AV):List Nat→T AV→T AV
 | [], t=>t
 | i::l,t=>zli env l (t.set i (getE env i))
def setE:List (Nat×AV)→T AV→T AV
 | [], t=>t
 | p::l,t=>setE l (t.set p.1 p.2)
def pathEq:List Nat→List Nat→Bool
 | [], [] => true
 | a::l,b::m=>match Nat.beq a b with|true=>pathEq l m|false=>false
 | _,_=>false
def notJunk:AV→Bool
 | .junk=>false
 | _=>true
def zgh (N:Nat) (env:T AV):List (Nat×AV)→Bool
 | [] => true
 | p::l=>match Nat.blt p.1 N,AV.beq (getE env p.1) p.2,notJunk p.2 with|true,true,true=>zgh N env l|_,_,_=>false
def zaq (N:Nat):List (Nat×AV)→Bool
 | [] => true
 | p::l=>match Nat.blt p.1 N with|true=>zaq N l|false=>false
def zlT (N:Nat):List Nat→Bool
 | [] => true
 | p::l=>match Nat.blt p N with|true=>zlT N l|false=>false
def zmb (N:Nat):List LEnd→Bool
 | [] => true
 | e::l=>match zaq N e.slots with|true=>zmb N l|false=>false
def LEnt.fits (e:LEnt) (p:List Nat) (N:Nat) (env:T AV) (H:Heap):Bool:=
 match pathEq p e.p,Nat.beq N e.n with
 | false,_=>false
 | true,false=>false
 | true,true=>match zgh N env e.slots,zlT N e.keep,zmb N e.ends,Nat.beq H.gs e.gs with
  | true,true,true,true=>(match env.get dslot,Nat.ble N dslot,zcp H e.rows with
   | none,true,true=>(match e.nopq with
    | 0=>true
    | _+1=>Nat.beq H.nx e.base)
   | _,_,_=>false)
  | _,_,_,_=>false
def LEnt.ent (e:LEnt) (d:LEnd):Ent:=⟨0,[],e.gs,e.base,e.nopq,undefA,d.gs⟩
def LEnt.env (e:LEnt) (d:LEnd) (N:Nat) (env:T AV):T AV:=setE d.slots (zli env e.keep (junkE N .leaf))
def LEnt.ans (e:LEnt) (N:Nat) (env:T AV) (H:Heap):List LEnd→LAns
 | [] => []
 | d::l=>(d.test,d.ex,e.env d N env,(e.ent d).heap H)::e.ans N env H l
def lentGo:List LEnt→LOrc
 | [], _,_,_,_=>none
 | e::l,p,N,env,H=>match e.fits p N env H with
  | true=>some (e.ans N env H e.ends)
  | false=>lentGo l p N env H
def zao (l:List LEnt):LOrc:=fun p N env H=>
 match p with
 | 2::_=>none
 | p=>lentGo l p N env H

def zjC (ρ:Val) (l:List LEnd):Option LEnd:=zis ρ (l.map fun d=>(d.test,d))
def zgc (P:Program) (ρ:Val) (w0:World) (K:Nat→Prop) (g:Gho) (e:LEnt):Prop:=
 ∀ c,codeR P e.p=c→ ∀(j:J) (a:Act) (w:World) (F:Nat→Prop) (n:Nat),a.tmps.size=e.n→a.defers= []→(∀s∈e.slots,s.1<e.n∧R ρ j s.2 (a.tmps.getD s.1 undef))→(∀r∈e.rows,∀L,j r.1=some L→ ¬F L.blk∧ ∃vals,RL ρ j r.2 vals∧Row w L vals)→
  (∀ k,n≤k→j k=none)→(e.nopq≠0→n=e.base)→(∀b,F b→b<w.heap.size)→w0.heap.size≤w.heap.size→g.fact e.gs (opqs j) F w→(∀i,i<w0.heap.size→ ¬K i→w.heap[i]? =w0.heap[i]?)→
  c.wp P (fun ex a' w'=> ∃d qs F',zjC ρ e.ends=some d∧ex=exOf d.ex∧a'.tmps.size=e.n∧a'.defers= []∧(∀t∈e.keep,a'.tmps.getD t undef=a.tmps.getD t undef)∧qs.length=e.nopq∧
   (∀ s∈d.slots,R ρ (jq j n qs) s.2 (a'.tmps.getD s.1 undef))∧g.fact d.gs (opqs (jq j n qs)) F' w'∧(∀b,F' b→b<w'.heap.size∧(F b∨w.heap.size≤b))∧Mv (fun b=>F b∧(w0.heap.size≤b∨K b)) w w') a w
def zqU (P:Program) (ρ:Val) (w0:World) (K:Nat→Prop) (g:Gho) (e:LEnt):Prop:=
  ∀ c,codeR P e.p= .loop c→ ∀(j:J) (a:Act) (w:World) (F:Nat→Prop) (n:Nat),a.tmps.size=e.n→a.defers= []→(∀s∈e.slots,s.1<e.n∧R ρ j s.2 (a.tmps.getD s.1 undef))→(∀r∈e.rows,∀L,j r.1=some L→ ¬F L.blk∧ ∃vals,RL ρ j r.2 vals∧Row w L vals)→
    (∀ k,n≤k→j k=none)→(e.nopq≠0→n=e.base)→(∀b,F b→b<w.heap.size)→w0.heap.size≤w.heap.size→g.fact e.gs (opqs j) F w→(∀i,i<w0.heap.size→ ¬K i→w.heap[i]? =w0.heap[i]?)→
    (Code.loop c).wp P (fun ex a' w'=> ∃d qs F',zjC ρ e.ends=some d∧ex=exOf d.ex∧a'.tmps.size=e.n∧a'.defers= []∧(∀t∈e.keep,a'.tmps.getD t undef=a.tmps.getD t undef)∧qs.length=e.nopq∧
      (∀ s∈d.slots,R ρ (jq j n qs) s.2 (a'.tmps.getD s.1 undef))∧g.fact d.gs (opqs (jq j n qs)) F' w'∧(∀b,F' b→b<w'.heap.size∧(F b∨w.heap.size≤b))∧Mv (fun b=>F b∧(w0.heap.size≤b∨K b)) w w') a w
def zhZ (P:Program) (ρ:Val) (w0:World) (K:Nat→Prop) (g:Gho):List LEnt→Prop
 | [] => True
 | e::l=>zgc P ρ w0 K g e∧zhZ P ρ w0 K g l
def slotsSmall:List (Nat×AV)→Bool
 | [] => true
 | s::l=>match s.2.small with|true=>slotsSmall l|false=>false
def endsSmall:List LEnd→Bool
 | [] => true
 | d::l=>match d.test.small,slotsSmall d.slots with|true,true=>endsSmall l|_,_=>false
def rowsSmall:List (Nat×List AV)→Bool
 | [] => true
 | r::l=>match AV.smallL r.2 with|true=>rowsSmall l|false=>false
theorem rowsSmall_mem: ∀ {l:List (Nat×List AV)},rowsSmall l=true→ ∀s∈l,AV.smallL s.2=true
 | [], _,s,h=>by cases h
 | p::l,hl,s,h=>by
  unfold rowsSmall at hl
  split at hl
  ·rename_i hb
   rcases List.mem_cons.1 h with rfl|h
   ·exact hb
   ·exact rowsSmall_mem hl s h
  ·cases hl
def lentsSmall:List LEnt→Bool
 | [] => true
 | e::l=>match slotsSmall e.slots,endsSmall e.ends,rowsSmall e.rows with|true,true,true=>lentsSmall l|_,_,_=>false

theorem envGet_junkE: ∀(n:Nat) (t0:T AV) (t:Nat),zaE (junkE n t0) t=if t<n then .junk else zaE t0 t
 | 0,t0,t=>by rw [if_neg (by omega)];rfl
 | n+1,t0,t=>by
  unfold junkE
  rw [envGet_junkE n,za3]
  by_cases h:t<n
  ·rw [if_pos h,if_pos (by omega)]
  ·rw [if_neg h]
   by_cases h2:t=n
   ·rw [if_pos h2,if_pos (by omega)]
   ·rw [if_neg h2,if_neg (by omega)]
theorem zlr (env:T AV) (t:Nat):getE env t=zaE env t:=rfl
theorem zdU {env:T AV}: ∀(l:List Nat) (t0:T AV) (t:Nat),(t∈l∧zaE (zli env l t0) t=zaE env t)∨zaE (zli env l t0) t=zaE t0 t
 | [], t0,t=> .inr rfl
 | i::l,t0,t=>by
  unfold zli
  rcases zdU (env:=env) l (t0.set i (getE env i)) t with ⟨h1,h2⟩|h
  ·exact .inl ⟨List.mem_cons_of_mem _ h1,h2⟩
  ·rw [h,za3]
   by_cases hi:t=i
   ·rw [if_pos hi,zlr,hi];exact .inl ⟨List.mem_cons_self ..,rfl⟩
   ·rw [if_neg hi];exact .inr rfl
theorem envGet_setE: ∀(l:List (Nat×AV)) (t0:T AV) (t:Nat),(∃v,(t,v)∈l∧zaE (setE l t0) t=v)∨zaE (setE l t0) t=zaE t0 t
 | [], t0,t=> .inr rfl
 | p::l,t0,t=>by
  unfold setE
  rcases envGet_setE l (t0.set p.1 p.2) t with ⟨v,h1,h2⟩|h
  ·exact .inl ⟨v,List.mem_cons_of_mem _ h1,h2⟩
  ·rw [h,za3]
   by_cases hi:t=p.1
   ·rw [if_pos hi];exact .inl ⟨p.2,by rw [hi];exact List.mem_cons_self ..,rfl⟩
   ·rw [if_neg hi];exact .inr rfl
theorem zeA {N:Nat}: ∀ {l:List (Nat×AV)},zaq N l=true→ ∀s∈l,s.1<N
 | [], _,s,h=>by cases h
 | p::l,hl,s,h=>by
  unfold zaq at hl
  split at hl
  ·rename_i hb
   rcases List.mem_cons.1 h with rfl|h
   ·rwa [Nat.blt_eq] at hb
   ·exact zeA hl s h
  ·cases hl
theorem zhY {N:Nat}: ∀ {l:List Nat},zlT N l=true→ ∀s∈l,s<N
 | [], _,s,h=>by cases h
 | p::l,hl,s,h=>by
  unfold zlT at hl
  split at hl
  ·rename_i hb
   rcases List.mem_cons.1 h with rfl|h
   ·rwa [Nat.blt_eq] at hb
   ·exact zhY hl s h
  ·cases hl
theorem zh7 {N:Nat}: ∀ {l:List LEnd},zmb N l=true→ ∀d∈l,zaq N d.slots=true
 | [], _,s,h=>by cases h
 | p::l,hl,s,h=>by
  unfold zmb at hl
  split at hl
  ·rename_i hb
   rcases List.mem_cons.1 h with rfl|h
   ·exact hb
   ·exact zh7 hl s h
  ·cases hl
theorem zfR {N:Nat} {env:T AV}: ∀ {l:List (Nat×AV)},zgh N env l=true→ ∀s∈l,s.1<N∧zaE env s.1=s.2∧s.2≠ .junk
 | [], _,s,h=>by cases h
 | p::l,hl,s,h=>by
  unfold zgh at hl
  split at hl
  ·rename_i hb hv hj
   rcases List.mem_cons.1 h with rfl|h
   ·exact ⟨by rwa [Nat.blt_eq] at hb,by rw [←zlr];exact AV.beq_eq hv,fun e=>by rw [e] at hj;cases hj⟩
   ·exact zfR hl s h
  ·cases hl
theorem pathEq_eq: ∀ {l m:List Nat},pathEq l m=true→l=m
 | [], [], _=>rfl
 | a::l,b::m,h=>by
  unfold pathEq at h
  split at h
  ·rename_i hb;rw [zan hb,pathEq_eq h]
  ·cases h
 | [], _::_,h=>by cases h
 | _::_,[],h=>by cases h
theorem slotsSmall_mem: ∀ {l:List (Nat×AV)},slotsSmall l=true→ ∀s∈l,s.2.small=true
 | [], _,s,h=>by cases h
 | p::l,hl,s,h=>by
  unfold slotsSmall at hl
  split at hl
  ·rename_i hb
   rcases List.mem_cons.1 h with rfl|h
   ·exact hb
   ·exact slotsSmall_mem hl s h
  ·cases hl
theorem endsSmall_mem: ∀ {l:List LEnd},endsSmall l=true→ ∀d∈l,d.test.small=true∧slotsSmall d.slots=true
 | [], _,s,h=>by cases h
 | p::l,hl,s,h=>by
  unfold endsSmall at hl
  split at hl
  ·rename_i hb hc
   rcases List.mem_cons.1 h with rfl|h
   ·exact ⟨hb,hc⟩
   ·exact endsSmall_mem hl s h
  ·cases hl
theorem zhT {ρ:Val} {α:Type} (e:SB×α) (l:List (SB×α)):zis ρ (e::l)=if e.1.den ρ=true then some e.2 else zis ρ l:=by
 obtain ⟨b,x⟩:=e
 show (match b with| .lit true=>some x|b=>if b.den ρ=true then some x else zis ρ l)=_
 split
 ·rfl
 ·rfl
theorem zaT {ρ:Val} (e:LEnd) (l:List LEnd):zjC ρ (e::l)=if e.test.den ρ=true then some e else zjC ρ l:=zhT _ _
theorem zgP {ρ:Val}: ∀ {l:List LEnd} {d:LEnd},zjC ρ l=some d→d∈l
 | [], d,h=>by cases h
 | e::l,d,h=>by
  rw [zaT] at h
  split at h
  ·cases h;exact List.mem_cons_self ..
  ·exact List.mem_cons_of_mem _ (zgP h)
theorem zjB {ρ:Val} {m:Nat→Bool} {e:LEnt} {N:Nat} {env:T AV} {H:Heap}: ∀ {l:List LEnd} {d:LEnd},endsSmall l=true→zjC ρ l=some d→zis (ρ.mark m) (e.ans N env H l)=some (d.ex,e.env d N env,(e.ent d).heap H)
 | [], d,_,h=>by cases h
 | e0::l,d,hs,h=>by
  have hs0:=(endsSmall_mem hs e0 (List.mem_cons_self ..)).1
  unfold endsSmall at hs
  split at hs
  case h_2=>cases hs
  rw [zaT] at h
  unfold LEnt.ans
  rw [zhT]
  simp only [SB.den_mark ρ m _ hs0]
  split at h
  ·rename_i ht
   cases h
   rw [if_pos ht]
  ·rename_i ht
   rw [if_neg ht]
   exact zjB hs h
theorem zeg {P:Program} {ρ:Val} {w0:World} {K:Nat→Prop} {g:Gho} (m:Nat→Bool) {l:List LEnt} (hs:lentsSmall l=true) (h:zhZ P ρ w0 K g l):zkD P (ρ.mark m) (cxOf w0 K g) (zao l):=by
 refine ⟨fun _ _ _ _=>rfl,fun p N env H r c hc hr j a w hi he=> ?_⟩
 unfold zao at hr
 split at hr
 ·cases hr
 induction l with
 | nil=>cases hr
 | cons e l ih=>
  unfold lentsSmall at hs
  split at hs
  case h_2=>cases hs
  rename_i h1 h2 h3
  unfold lentGo at hr
  split at hr
  case h_2=>exact ih hs h.2 hr
  rename_i hf
  cases hr
  unfold LEnt.fits at hf
  split at hf
  ·cases hf
  ·cases hf
  rename_i hp hN
  have hp:=pathEq_eq hp
  have hN:=zan hN
  subst hp hN
  split at hf
  case h_2=>cases hf
  rename_i f1 f2 f3 f4
  split at hf
  case h_2=>cases hf
  rename_i f5 f6 f7
  have f4:=zan f4
  have f6:=Nat.le_of_ble_eq_true f6
  have hdf:a.defers= []:=he.dfr.none (by unfold zaE;rw [f5])
  have hG:=hi.gho
  rw [f4] at hG
  obtain ⟨F,g1,g2⟩:=hG
  have hnone: ∀k,H.nx≤k→j k= .none:=fun k hk=>by
   cases hjk:j k with
   | none=>rfl
   | some L=>have:=hi.dom k L hjk;omega
  have hbase:e.nopq≠0→H.nx=e.base:=fun hn=>by
   split at hf
   ·rename_i h0;exact absurd h0 hn
   ·exact zan hf
  have hss:=slotsSmall_mem h1
  have hsl: ∀s∈e.slots,s.1<e.n∧R ρ j s.2 (a.tmps.getD s.1 undef):=fun s hs'=>by
   obtain ⟨q1,q2,q3⟩:=zfR f1 s hs'
   refine ⟨q1,?_⟩
   have:=he.get s.1 (by omega)
   rw [q2] at this
   exact (R_mark m (hss s hs')).1 (this.resolve_left q3)
  have hrw: ∀r∈e.rows,∀L,j r.1=some L→ ¬F L.blk∧ ∃vals,RL ρ j r.2 vals∧Row w L vals:=fun r hr L hL=>by
   have hri:=zbG f7 hr
   obtain ⟨vals,arr,e',fr,q1,q2,q3,_⟩:=hi.rowOut hL hri
   refine ⟨fun hF=> ?_,vals,(RL_mark m (rowsSmall_mem h3 r hr)).1 q2,arr,e',fr,q1,q3⟩
   obtain ⟨_,_,_,_,_,h5,_⟩:=zd8 hri
   exact (g1 _ hF).2 ⟨r.1,L,hL,hi.qrow hL h5,rfl⟩
  refine wp_mono (h.1 c hc j a w F H.nx he.size hdf hsl hrw hnone hbase (fun b hF=>(g1 b hF).1) hi.fr.size g2 hi.fr.old) fun ex a' w' hh=> ?_
  obtain ⟨d,qs,F',e1,e2,e3,e4,e5,e6,e7,e8,e9,e10⟩:=hh
  have hd:=zgP e1
  have hns:(cxOf w0 K g).G (e.ent d).gs' (jq j H.nx qs) w':=⟨F',fun b hF'=>⟨(e9 b hF').1,fun hm=>by
   have hm:=ziz hnone hm
   rcases (e9 b hF').2 with hF|hF
   ·exact (g1 b hF).2 hm
   ·obtain ⟨k,L,k1,k2,k3⟩:=hm
    have:=hi.blk k L k1 k2
    omega⟩,e8⟩
  obtain ⟨i1,i2⟩:=Inv.ent (e:=e.ent d) hi f4 e6 hns (e10.mono fun b hb=>⟨(g1 b hb.1).2,hb.2⟩)
  refine ⟨d.ex,e.env d e.n env,(e.ent d).heap H,jq j H.nx qs,zjB h2 e1,e2,⟨e3,f6,fun t ht=> ?_,?_⟩,i1,i2⟩
  ·unfold LEnt.env
   have hds:=(endsSmall_mem h2 d hd).2
   rcases envGet_setE d.slots (zli env e.keep (junkE e.n .leaf)) t with ⟨v,q1,q2⟩|q
   ·rw [q2]
    exact .inr ((R_mark m (slotsSmall_mem hds _ q1)).2 (e7 _ q1))
   ·rw [q]
    rcases zdU (env:=env) e.keep (junkE e.n .leaf) t with ⟨q1,q2⟩|q
    ·rw [q2,e5 t q1]
     exact (he.get t ht).imp_right (·.mono i2.sub)
    ·rw [q,envGet_junkE]
     by_cases hN:t<e.n
     ·rw [if_pos hN];exact .inl rfl
     ·rw [if_neg hN,Array.getD_eq_getD_getElem?,Array.getElem?_eq_none (by omega)]
      exact .inr zb9
  ·rw [e4]
   show DR (ρ.mark m) _ (zaE (e.env d e.n env) dslot) []
   have:zaE (e.env d e.n env) dslot=undefA:=by
    unfold LEnt.env
    rcases envGet_setE d.slots (zli env e.keep (junkE e.n .leaf)) dslot with ⟨v,q1,_⟩|q
    ·have:=zeA (zh7 f3 d hd) _ q1
     simp only at this
     omega
    ·rw [q]
     rcases zdU (env:=env) e.keep (junkE e.n .leaf) dslot with ⟨q1,_⟩|q
     ·have:=zhY f2 _ q1
      omega
     ·rw [q,envGet_junkE,if_neg (by omega)];rfl
   rw [this]
   rfl

theorem zjO {P:Program} {ρ:Val} {w0:World} {K:Nat→Prop} {g:Gho} {e:LEnt} (hn:e.nopq=0) (hg: ∀d∈e.ends,d.gs=e.gs)
    (h: ∀c,codeR P e.p= .loop c→ ∀(j:J) (a:Act) (w:World) (F:Nat→Prop),a.tmps.size=e.n→a.defers= []→(∀s∈e.slots,s.1<e.n∧R ρ j s.2 (a.tmps.getD s.1 undef))→(∀r∈e.rows,∀L,j r.1=some L→ ¬F L.blk∧ ∃vals,RL ρ j r.2 vals∧Row w L vals)→g.fact e.gs (opqs j) F w→w0.heap.size≤w.heap.size→(∀i,i<w0.heap.size→ ¬K i→w.heap[i]? =w0.heap[i]?)→
      (Code.loop c).wp P (fun ex a' w'=> ∃d,zjC ρ e.ends=some d∧ex=exOf d.ex∧a'.tmps.size=e.n∧a'.defers= []∧(∀t∈e.keep,a'.tmps.getD t undef=a.tmps.getD t undef)∧(∀s∈d.slots,R ρ j s.2 (a'.tmps.getD s.1 undef))∧Below w.heap.size w w') a w):zqU P ρ w0 K g e:=by
  intro c hc j a w F n h1 h2 h3 h4 _ _ hF hsz hf hold
  refine wp_mono (h c hc j a w F h1 h2 h3 h4 hf hsz hold) fun ex a' w' hh=> ?_
  obtain ⟨d,e1,e2,e3,e4,e5,e6,e7⟩:=hh
  refine ⟨d,[],F,e1,e2,e3,e4,e5,by rw [hn];rfl,fun s hs=>by rw [zcb];exact e6 s hs,?_,fun b hb=>⟨Nat.lt_of_lt_of_le (hF b hb) e7.size,.inl hb⟩,Mv.of_below e7⟩
  rw [zcb,hg d (zgP e1)]
  exact g.loc _ _ _ _ _ _ hf (fun _ _ h=>h) (fun b hb=>e7.block b (hF b hb)) e7.size

structure AEnt where
 t:TypeId
 s:AV
 n:Nat
 xs:List AV
 gs:Nat
 base:Nat
 nopq:Nat
 res:AV
 gs':Nat
def AEnt.ent (e:AEnt):Ent:=⟨0,[],e.gs,e.base,e.nopq,e.res,e.gs'⟩
def AEnt.fits (e:AEnt) (t:TypeId) (s:AV) (n:Nat) (xs:List AV) (H:Heap):Bool:=
 match Nat.beq t e.t,AV.beq s e.s,Nat.beq n e.n,Nat.beq H.gs e.gs with
 | true,true,true,true=>(match AV.beqL xs e.xs with
  | true=>(match e.nopq with
   | 0=>true
   | _+1=>Nat.beq H.nx e.base)
  | false=>false)
 | _,_,_,_=>false
def aentOrc:List AEnt→AOrc
 | [], _,_,_,_,_=>none
 | e::l,t,s,n,xs,H=>match e.fits t s n xs H with
  | true=>some (e.res,e.ent.heap H)
  | false=>aentOrc l t s n xs H
def zqB (P:Program) (ρ:Val) (w0:World) (K:Nat→Prop) (g:Gho) (e:AEnt):Prop:=
 ∀ (j:J) (w:World) (F:Nat→Prop) (n:Nat) (us:Value) (bb o cap:Nat) (vals:List Value) (ty:TypeId),R ρ j e.s us→zpf w bb o vals→RL ρ j e.xs vals→(∀k,n≤k→j k=none)→(e.nopq≠0→n=e.base)→(∀b,F b→b<w.heap.size)→w0.heap.size≤w.heap.size→g.fact e.gs (opqs j) F w→
  ∃ u w' qs F',(Builtin.append_ #[e.t,e.t] ty #[us,.slice (some ⟨bb,o,none⟩) e.n cap]).run P w= .ok u w'∧qs.length=e.nopq∧R ρ (jq j n qs) e.res u∧g.fact e.gs' (opqs (jq j n qs)) F' w'∧(∀b,F' b→b<w'.heap.size∧(F b∨w.heap.size≤b))∧Mv (fun b=>F b∧(w0.heap.size≤b∨K b)) w w'
def zif (P:Program) (ρ:Val) (w0:World) (K:Nat→Prop) (g:Gho):List AEnt→Prop
 | [] => True
 | e::l=>zqB P ρ w0 K g e∧zif P ρ w0 K g l
def aentsSmall:List AEnt→Bool
 | [] => true
 | e::l=>match e.s.small,AV.smallL e.xs,e.res.small with|true,true,true=>aentsSmall l|_,_,_=>false
theorem zeo {P:Program} {ρ:Val} {w0:World} {K:Nat→Prop} {g:Gho} (m:Nat→Bool) {l:List AEnt} (hs:aentsSmall l=true) (h:zif P ρ w0 K g l):zmu P (ρ.mark m) (cxOf w0 K g) (aentOrc l):=by
 intro t s n xs H r hr k hk j w us bb o cap vals ty hi hus hv hxs
 induction l with
 | nil=>cases hr
 | cons e l ih=>
  unfold aentsSmall at hs
  split at hs
  case h_2=>cases hs
  rename_i h1 h2 h3
  unfold aentOrc at hr
  split at hr
  case h_2=>exact ih hs h.2 hr
  rename_i hf
  cases hr
  unfold AEnt.fits at hf
  split at hf
  case h_2=>cases hf
  rename_i f1 f2 f3 f4
  split at hf
  case h_2=>cases hf
  rename_i f5
  have f1:=zan f1
  have f2:=AV.beq_eq f2
  have f3:=zan f3
  have f4:=zan f4
  have f5:=AV.beqL_eq f5
  subst f1 f2 f3 f5
  have hG:=hi.gho
  rw [f4] at hG
  obtain ⟨F,g1,g2⟩:=hG
  have hnone: ∀k,H.nx≤k→j k= .none:=fun k hk=>by
   cases hjk:j k with
   | none=>rfl
   | some L=>have:=hi.dom k L hjk;omega
  have hbase:e.nopq≠0→H.nx=e.base:=fun hn=>by
   split at hf
   ·rename_i h0;exact absurd h0 hn
   ·exact zan hf
  obtain ⟨u,w',qs,F',e1,e2,e3,e4,e5,e6⟩:=h.1 j w F H.nx us bb o cap vals ty ((R_mark m h1).1 hus) hv ((RL_mark m h2).1 hxs) hnone hbase (fun b hF=>(g1 b hF).1) hi.fr.size g2
  have hns:(cxOf w0 K g).G e.ent.gs' (jq j H.nx qs) w':=⟨F',fun b hF'=>⟨(e5 b hF').1,fun hm=>by
   have hm:=ziz hnone hm
   rcases (e5 b hF').2 with hF|hF
   ·exact (g1 b hF).2 hm
   ·obtain ⟨k,L,k1,k2,k3⟩:=hm
    have:=hi.blk k L k1 k2
    omega⟩,e4⟩
  obtain ⟨i1,i2⟩:=Inv.ent (e:=e.ent) hi f4 e2 hns (e6.mono fun b hb=>⟨(g1 b hb.1).2,hb.2⟩)
  exact ⟨u,w',e1,e.res,e.ent.heap H,jq j H.nx qs,(R_mark m h3).2 e3,i1,i2,hk⟩

theorem zjE {P:Program} (hmo:P.follows .mixedOrders=true) {orc:FuncId→List AV→Heap→Option (List (AV×Heap))} {lorc:LOrc} {aorc:AOrc} {x:Cx} {ρ:Val} {w:World} {n:Nat} {f:FuncId} {args:List AV} {vals:List Value} {H:Heap} {j:J} {ls:List Leaf} {asm:List (SB×Bool)} {ps:List (List (SB×Bool)×Nat)}
  (hor: ∀m,zeI P (ρ.mark m) x orc) (hlo: ∀m,zkD P (ρ.mark m) x lorc) (hao: ∀m,zmu P (ρ.mark m) x aorc) (hi: ∀m,Inv (ρ.mark m) x j H w) (ha: ∀m,RL (ρ.mark m) j args vals) (ht:Told ρ asm)
  (h:(evL P orc lorc aorc n (.call f args H (leafAt ls 0))).paths asm=some ps):
  Calls P f vals.toArray w fun e w'=> ∃p∈ps,Told ρ p.1∧ ∃l,ls[p.2]? =some l∧ ∃m u v j' H',e= .returned u∧R (ρ.mark m) j' v u∧Inv (ρ.mark m) x j' H' w'∧St j H j' H'∧l.fits v H'=true:=by
 classical
 let m:Nat→Bool:=fun k=>decide (∃p∈ps,1000000+p.2=k∧Told ρ p.1)
 have hm: ∀p∈ps,Told ρ p.1→m (1000000+p.2)=true:=fun p hp ht=>by
  show decide _=true
  exact decide_eq_true ⟨p,hp,rfl,ht⟩
 have hd:=paths_den hm h (fun q hq=>hq) ht
 have hg:=ze9 (w0:=x) (hor m) (hlo m) (hao m) (fun n rec hg=>zgN hmo hg) n
 refine Calls.mono ((hg.call f args H (leafAt ls 0) hd).2 j w vals (hi m) (ha m)) fun e w' he=> ?_
 obtain ⟨u,rfl,v,H',j',h1,h2,h3,h4⟩:=he
 obtain ⟨k,l,h5,h6,h7⟩:=zfG h4
 have h7:(if 1000000+(0+k)<1000000 then ρ.b (1000000+(0+k)) else m (1000000+(0+k)))=true:=h7
 rw [if_neg (by omega)] at h7
 obtain ⟨p,hp,hk,hto⟩:=of_decide_eq_true h7
 have:p.2=k:=by omega
 subst this
 exact ⟨p,hp,hto,l,h5,m,u,v,j',H',rfl,h1,h2,h3,h6⟩
theorem zc3 {P:Program} {ρ:Val} {w:World} {K:Nat→Prop} {g:Gho} {bl:List (Nat×Nat)} {shs:List Sh} {gs:Nat} {ents:List Ent} {lents:List LEnt} {aents:List AEnt} {n:Nat} {f:FuncId} {args:List AV} {vals:List Value} {ls:List Leaf} {asm:List (SB×Bool)} {ps:List (List (SB×Bool)×Nat)}
  (hmo:P.follows .mixedOrders=true)
  (h:(evL P (entOrc ents) (zao lents) (aentOrc aents) n (.call f args (zaj gs shs) (leafAt ls 0))).ways asm=some ps)
  (hs:(shsSmall shs&&entsSmall ents&&lentsSmall lents&&aentsSmall aents&&AV.smallL args&&leavesExact ls)=true)
  (hK: ∀b,K b→b<w.heap.size) (ho:ShsOk ρ (jOf bl) (cxOf w K g) bl shs) (hap:apart bl shs) (hG:g.G gs (jOf bl) w) (he:zha P ρ w K g ents) (hl:zhZ P ρ w K g lents) (haa:zif P ρ w K g aents) (ha:RL ρ (jOf bl) args vals) (ht:Told ρ asm):
  Calls P f vals.toArray w fun e w'=> ∃p∈ps,Told ρ p.1∧ ∃l,ls[p.2]? =some l∧ ∃j,EndOk ρ w K g bl l e w' j:=by
 simp only [Bool.and_eq_true] at hs
 obtain ⟨⟨⟨⟨⟨s1,s2⟩,s5⟩,s9⟩,s3⟩,s4⟩:=hs
 unfold Ob.ways at h
 cases hps:(evL P (entOrc ents) (zao lents) (aentOrc aents) n (.call f args (zaj gs shs) (leafAt ls 0))).paths asm with
 | none=>rw [hps] at h;cases h
 | some ps0=>
 rw [hps] at h
 cases h
 have h:=hps
 refine Calls.mono (zjE (x:=cxOf w K g) hmo (fun m=>zdV (zbV m s2 he)) (fun m=>zeg m s5 hl) (fun m=>zeo m s9 haa) (fun m=>zdQ hK (zcj m s1 ho) hap hG) (fun m=>(RL_mark m s3).2 ha) ht h) fun e w' hh=> ?_
 obtain ⟨p,hp,hto,l,hl,m,u,v,j',H',rfl,h1,h2,h3,h4⟩:=hh
 obtain ⟨x1,x2,x3,x4⟩:=leavesExact_at s4 hl
 exact ⟨(p.1.drop asm.length,p.2),zbW hp,fun c hc=>hto c (List.mem_of_mem_drop hc),l,hl,j',zfc x1 x2 x3 x4 h1 h2 h3 h4⟩

structure CLeaf where
 ex:Ex
 slots:List Nat
 dfr:Option AV
 leaf:Leaf
def exEq:Ex→Ex→Bool
 | .normal,.normal=>true
 | .ret,.ret=>true
 | .exit a,.exit b=>Nat.beq a b
 | _,_=>false
def zoD (env:T AV):List Nat→List AV
 | [] => []
 | t::l=>getE env t::zoD env l
def zh3 (env:T AV):List Nat→Bool
 | [] => true
 | t::l=>match Nat.blt t dslot,notJunk (getE env t) with|true,true=>zh3 env l|_,_=>false
def zkj (env:T AV) (d:Option AV):Bool:=
 match env.get dslot,d with
 | none,none=>true
 | some v,some u=>AV.beq v u
 | _,_=>false
def DRo (ρ:Val) (j:J):Option AV→List Deferred→Prop
 | none,ds=>ds= []
 | some v,ds=>DR ρ j v ds
def dfrSmall:Option AV→Bool
 | none=>true
 | some v=>v.small
def cleafAt:List CLeaf→Nat→KC
  | [], _, _, _, _ => .bad 95 ""
  | l::r,i,ex,env,H=>match exEq ex l.ex,zkj env l.dfr,zh3 env l.slots with
    | true,true,true=>(match l.leaf.fits (.tup (zoD env l.slots)) H with
      | true => zdz (1000000 + i) fun n => .ite (.var n) .ok (.bad 96 "")
      | false=>cleafAt r (Nat.succ i) ex env H)
    | _,_,_=>cleafAt r (Nat.succ i) ex env H
def envS (N:Nat) (slots:List (Nat×AV)) (d:Option AV):T AV:=
 match d with
 | none=>setE slots (junkE N .leaf)
 | some v=>(setE slots (junkE N .leaf)).set dslot v
def cleavesExact:List CLeaf→Bool
 | [] => true
 | l::r=>match leavesExact [l.leaf],dfrSmall l.dfr with|true,true=>cleavesExact r|_,_=>false
theorem cleavesExact_at: ∀ {ls:List CLeaf} {i:Nat} {l:CLeaf},cleavesExact ls=true→ls[i]? =some l→leavesExact [l.leaf]=true∧dfrSmall l.dfr=true
 | [], _,_,_,h=>by cases h
 | x::r,i,l,hx,h=>by
  unfold cleavesExact at hx
  split at hx
  case h_2=>cases hx
  rename_i h1 h2
  cases i with
  | zero=>cases h;exact ⟨h1,h2⟩
  | succ i=>exact cleavesExact_at hx (by simpa using h)
theorem zrK {a b:Ex} (h:exEq a b=true):a=b:=by
 cases a<;>cases b<;>simp only [exEq] at h<;>first|rfl|cases h|rw [zan h]
theorem zeH {ρ:Val} {ex:Ex} {env:T AV} {H:Heap}: ∀ {ls:List CLeaf} {i:Nat},Ob.den ρ (cleafAt ls i ex env H)→ ∃k l,ls[k]? =some l∧ex=l.ex∧zkj env l.dfr=true∧zh3 env l.slots=true∧l.leaf.fits (.tup (zoD env l.slots)) H=true∧ρ.b (1000000+(i+k))=true
 | [], i,h=>h.elim
 | l::r,i,h=>by
  unfold cleafAt at h
  have later:Ob.den ρ (cleafAt r (Nat.succ i) ex env H)→ ∃k l',(l::r)[k]? =some l'∧ex=l'.ex∧zkj env l'.dfr=true∧zh3 env l'.slots=true∧l'.leaf.fits (.tup (zoD env l'.slots)) H=true∧ρ.b (1000000+(i+k))=true:=fun h=>by
   obtain ⟨k,l',h1,h2,h3,h4,h5,h6⟩:=zeH h
   exact ⟨k+1,l',h1,h2,h3,h4,h5,by rw [show i+(k+1)=Nat.succ i+k by omega];exact h6⟩
  split at h
  ·rename_i e1 e2 e3
   split at h
   ·rename_i hf
    rw [zbQ] at h
    refine ⟨0,l,rfl,zrK e1,e2,e3,hf,?_⟩
    cases hb:ρ.b (1000000+(i+0)) with
    | true=>rfl
    | false=>exact (h.2 hb).elim
   ·exact later h
  ·exact later h
theorem zlq {ρ:Val} {j:J} {N:Nat} {env:T AV} {a:Act} (he:ER ρ j N env a): ∀ {l:List Nat},zh3 env l=true→RL ρ j (zoD env l) (l.map fun t=>a.tmps.getD t undef)
 | [], _=>RL.nil
 | t::l,h=>by
  unfold zh3 at h
  split at h
  case h_2=>cases h
  rename_i h1 h2
  rw [Nat.blt_eq] at h1
  exact zaa ((he.get t (by omega)).resolve_left fun e=>by rw [zlr,e] at h2;cases h2) (zlq he h)
theorem zkh {N:Nat} {slots:List (Nat×AV)} (hle:N≤dslot) (hlt:zaq N slots=true):zaE (setE slots (junkE N .leaf)) dslot=undefA:=by
 rcases envGet_setE slots (junkE N .leaf) dslot with ⟨v,q1,_⟩|q
 ·have:=zeA hlt _ q1
  simp only at this
  omega
 ·rw [q,envGet_junkE,if_neg (by omega)];rfl
theorem zoL {ρ:Val} {j:J} {N:Nat} {slots:List (Nat×AV)} {d:Option AV} {a:Act} (hN:a.tmps.size=N) (hd:DRo ρ j d a.defers) (hle:N≤dslot) (hlt:zaq N slots=true) (ha: ∀s∈slots,R ρ j s.2 (a.tmps.getD s.1 undef)):ER ρ j N (envS N slots d) a:=by
 have get: ∀t,t≠dslot→zaE (setE slots (junkE N .leaf)) t= .junk∨R ρ j (zaE (setE slots (junkE N .leaf)) t) (a.tmps.getD t undef):=fun t ht=>by
  rcases envGet_setE slots (junkE N .leaf) t with ⟨v,q1,q2⟩|q
  ·rw [q2];exact .inr (ha _ q1)
  ·rw [q,envGet_junkE]
   by_cases h:t<N
   ·rw [if_pos h];exact .inl rfl
   ·rw [if_neg h,Array.getD_eq_getD_getElem?,Array.getElem?_eq_none (by omega)]
    exact .inr zb9
 cases d with
 | none=>
  have hd:a.defers= []:=hd
  refine ⟨hN,hle,get,?_⟩
  show DR ρ j (zaE (setE slots (junkE N .leaf)) dslot) _
  rw [hd,zkh hle hlt]
  rfl
 | some v=>
  refine ⟨hN,hle,fun t ht=> ?_,?_⟩
  ·show zaE ((setE slots (junkE N .leaf)).set dslot v) t= .junk∨R ρ j (zaE ((setE slots (junkE N .leaf)).set dslot v) t) _
   rw [za3,if_neg ht]
   exact get t ht
  ·show DR ρ j (zaE ((setE slots (junkE N .leaf)).set dslot v) dslot) _
   rw [za3,if_pos rfl]
   exact hd
theorem zlI {ρ:Val} {j:J} (m:Nat→Bool): ∀ {ds:List Deferred} {v:AV},v.small=true→(DR (ρ.mark m) j v ds↔DR ρ j v ds)
 | [], _,_=>Iff.rfl
 | _::ds,v,hs=>by
  constructor
  ·rintro ⟨g,args,rest,cap,rfl,e2,e3,e4⟩
   unfold AV.small AV.smallL at hs
   split at hs
   case h_2=>cases hs
   rename_i h1
   unfold AV.small at h1
   split at h1
   case h_2=>cases h1
   unfold AV.smallL at hs
   split at hs
   case h_2=>cases hs
   rename_i h2
   exact ⟨g,args,rest,cap,rfl,e2,(RL_mark m h1).1 e3,(zlI m h2).1 e4⟩
  ·rintro ⟨g,args,rest,cap,rfl,e2,e3,e4⟩
   unfold AV.small AV.smallL at hs
   split at hs
   case h_2=>cases hs
   rename_i h1
   unfold AV.small at h1
   split at h1
   case h_2=>cases h1
   unfold AV.smallL at hs
   split at hs
   case h_2=>cases hs
   rename_i h2
   exact ⟨g,args,rest,cap,rfl,e2,(RL_mark m h1).2 e3,(zlI m h2).2 e4⟩
theorem zgs {ρ:Val} {j:J} (m:Nat→Bool) {ds:List Deferred} {v:Option AV} (hs:dfrSmall v=true):DRo (ρ.mark m) j v ds↔DRo ρ j v ds:=by
 cases v with
 | none=>exact Iff.rfl
 | some v=>exact zlI m hs
theorem zam {P:Program} {ρ:Val} {w:World} {K:Nat→Prop} {g:Gho} {bl:List (Nat×Nat)} {shs:List Sh} {gs:Nat} {ents:List Ent} {lents:List LEnt} {aents:List AEnt} {n:Nat} {p:List Nat} {N:Nat} {slots:List (Nat×AV)} {dfr:Option AV} {ls:List CLeaf} {asm:List (SB×Bool)} {ps:List (List (SB×Bool)×Nat)}
  (hmo:P.follows .mixedOrders=true)
  (h:(evL P (entOrc ents) (zao lents) (aentOrc aents) n (.code (codeR P p) p N (envS N slots dfr) (zaj gs shs) (cleafAt ls 0))).ways asm=some ps)
  (hs:(shsSmall shs&&entsSmall ents&&lentsSmall lents&&aentsSmall aents&&slotsSmall slots&&cleavesExact ls&&zaq N slots&&Nat.ble N dslot&&dfrSmall dfr)=true)
  (hK: ∀b,K b→b<w.heap.size) (ho:ShsOk ρ (jOf bl) (cxOf w K g) bl shs) (hap:apart bl shs) (hG:g.G gs (jOf bl) w) (he:zha P ρ w K g ents) (hl:zhZ P ρ w K g lents) (haa:zif P ρ w K g aents)
  {a:Act} (hN:a.tmps.size=N) (hd:DRo ρ (jOf bl) dfr a.defers) (ha: ∀s∈slots,R ρ (jOf bl) s.2 (a.tmps.getD s.1 undef)) (ht:Told ρ asm):
  (codeR P p).wp P (fun ex a' w'=> ∃q∈ps,Told ρ q.1∧ ∃l,ls[q.2]? =some l∧ex=exOf l.ex∧a'.tmps.size=N∧ ∃j,DRo ρ j l.dfr a'.defers∧EndOk ρ w K g bl l.leaf (.returned (.tuple (l.slots.map fun t=>a'.tmps.getD t undef).toArray)) w' j) a w:=by
 simp only [Bool.and_eq_true] at hs
 obtain ⟨⟨⟨⟨⟨⟨⟨⟨s1,s2⟩,s5⟩,s9⟩,s3⟩,s4⟩,s6⟩,s7⟩,s8⟩:=hs
 have s7:=Nat.le_of_ble_eq_true s7
 unfold Ob.ways at h
 cases hps:(evL P (entOrc ents) (zao lents) (aentOrc aents) n (.code (codeR P p) p N (envS N slots dfr) (zaj gs shs) (cleafAt ls 0))).paths asm with
 | none=>rw [hps] at h;cases h
 | some ps0=>
 rw [hps] at h
 cases h
 have h:=hps
 classical
 let m:Nat→Bool:=fun k=>decide (∃p∈ps0,1000000+p.2=k∧Told ρ p.1)
 have hm: ∀p∈ps0,Told ρ p.1→m (1000000+p.2)=true:=fun p hp ht=>by
  show decide _=true
  exact decide_eq_true ⟨p,hp,rfl,ht⟩
 have hdn:=paths_den hm h (fun q hq=>hq) ht
 have hg:=ze9 (w0:=cxOf w K g) (zdV (zbV m s2 he)) (zeg m s5 hl) (zeo m s9 haa) (fun n rec hg=>zgN hmo hg) n
 refine wp_mono (hg.code _ _ _ _ _ _ rfl hdn (jOf bl) a w (zdQ hK (zcj m s1 ho) hap hG) (zoL hN ((zgs m s8).2 hd) s7 s6 fun s hs=>(R_mark m (slotsSmall_mem s3 s hs)).2 (ha s hs))) fun ex a' w' hh=> ?_
 obtain ⟨x,env',H',j',rfl,h1,h2,h3,h4⟩:=hh
 obtain ⟨k,l,h5,h6,h7,h8,h9,h10⟩:=zeH h4
 have h10:(if 1000000+(0+k)<1000000 then ρ.b (1000000+(0+k)) else m (1000000+(0+k)))=true:=h10
 rw [if_neg (by omega)] at h10
 obtain ⟨q,hq,hk,hto⟩:=of_decide_eq_true h10
 have:q.2=k:=by omega
 subst this
 obtain ⟨y1,y2⟩:=cleavesExact_at s4 h5
 obtain ⟨x1,x2,x3,x4⟩:=leavesExact_at (i:=0) y1 rfl
 refine ⟨(q.1.drop asm.length,q.2),zbW hq,fun c hc=>hto c (List.mem_of_mem_drop hc),l,h5,by rw [h6],h1.size,j',(zgs m y2).1 ?_,zfc x1 x2 x3 x4 (zcX (zlq h1 h8)) h2 h3 h9⟩
 have hdf:=h1.dfr
 unfold zkj at h7
 unfold zaE at hdf
 split at h7
 ·rename_i e1 e2
  rw [e1] at hdf
  rw [e2]
  exact hdf.none rfl
 ·rename_i v u e1 e2
  rw [e1] at hdf
  rw [e2,←AV.beq_eq h7]
  exact hdf
 ·cases h7
theorem zbd {P:Program} {c:Code} {Q:Exit→Act→World→Prop} {α:Type} (I:α→Act→World→Prop) (μ:α→Nat)
  (h: ∀x a w,I x a w→c.wp P (fun ex a' w'=>match ex with| .normal=> ∃x',μ x'<μ x∧I x' a' w'|ex=>Q ex a' w') a w) (x:α) (a:Act) (w:World) (hI:I x a w):(Code.loop c).wp P Q a w:=by
 have key: ∀n x a w,μ x<n→I x a w→Code.rounds P c Q n a w:=by
  intro n
  induction n with
  | zero=>intro x a w hn;omega
  | succ n ih=>
   intro x a w hn hI
   refine wp_mono (h x a w hI) fun ex a' w' hh=> ?_
   cases ex with
   | normal=>
    obtain ⟨x',h1,h2⟩:=hh
    exact ih x' a' w' (by omega) h2
   | _=>exact hh
 exact wp_loop_rounds (μ x+1) (key (μ x+1) x a w (Nat.lt_succ_self _) hI)

def zqK (P:Program) (p:List Nat):Nat×Nat:=
 match codeR P p with
 | .seq _ _=>(1,0)
 | .block id _=>(2,id)
 | .loop _=>(3,0)
 | .cond _ _ _=>(4,0)
 | _=>(0,0)
theorem zcU {P:Program} {p:List Nat} (hk:(zqK P p).1=3):codeR P p= .loop (codeR P (0::p)):=by
 cases hc:codeR P p with
 | loop x=>rw [zbo hc (by simp)];rfl
 | _=>unfold zqK at hk;rw [hc] at hk;cases hk
theorem zed {P:Program} {ρ:Val} {w0:World} {K:Nat→Prop} {g:Gho} {e:LEnt} (h:zqU P ρ w0 K g e) (hl: ∃c,codeR P e.p= .loop c:=by exact ⟨_,Go.Dw.zcU (by kernel_rfl)⟩):zgc P ρ w0 K g e:=by
 obtain ⟨c0,hc0⟩:=hl
 intro c hc
 rw [hc0] at hc
 subst hc
 exact h c0 hc0
theorem zct {P:Program} {ρ:Val} {w0:World} {K:Nat→Prop} {g:Gho} {e:LEnt} (hn:e.nopq=0) (hg: ∀d∈e.ends,d.gs=e.gs)
    (h: ∀c,codeR P e.p= .loop c→ ∀(j:J) (a:Act) (w:World) (F:Nat→Prop),a.tmps.size=e.n→a.defers= []→(∀s∈e.slots,s.1<e.n∧R ρ j s.2 (a.tmps.getD s.1 undef))→(∀r∈e.rows,∀L,j r.1=some L→ ¬F L.blk∧ ∃vals,RL ρ j r.2 vals∧Row w L vals)→g.fact e.gs (opqs j) F w→w0.heap.size≤w.heap.size→(∀i,i<w0.heap.size→ ¬K i→w.heap[i]? =w0.heap[i]?)→
      (Code.loop c).wp P (fun ex a' w'=> ∃d,zjC ρ e.ends=some d∧ex=exOf d.ex∧a'.tmps.size=e.n∧a'.defers= []∧(∀t∈e.keep,a'.tmps.getD t undef=a.tmps.getD t undef)∧(∀s∈d.slots,R ρ j s.2 (a'.tmps.getD s.1 undef))∧Below w.heap.size w w') a w) (hl: ∃c,codeR P e.p= .loop c:=by exact ⟨_,Go.Dw.zcU (by kernel_rfl)⟩):zgc P ρ w0 K g e:=zed (zjO hn hg h) hl
end Go.Dw
namespace Go.Proofs
open Go.Dw Go.RowKit
def Tryz.ckL (l:List (SE×Nat)):AV:= .sx 0 (lnv 0) 3 l
def Tryz.ckD:AV:= .tup [.func 118 [] [.ptr 1 0,.ptr 2 0],.tup []]
def Tryz.zfM (k:SE) (l:List (SE×Nat)):List (Nat×AV):= [(0,ckL l),(2,.ptr 1 0),(3,.ptr 2 0),(10,ckL l),(11,.int .i64 (lnv 0)),(12,.int .i64 k)]
def Tryz.zqo (e:SE) (r:List Sh):List Sh:= .own [.int .i64 e]:: .own [.int .u64 (u64v 2)]::r
def Tryz.ckEl (a n b:Nat):Sh:= .ro [.int .u64 (u64v a),.int .u32 (u32v n),.bool (.var b)]
end Go.Proofs
namespace Go.Proofs
open Go.Dw

def Tryz.ckb0_ents:List Ent:= []
def Tryz.ckb0_shs:List Sh:=zqo (.lit 0) [ckEl 3 4 0]
def Tryz.ckb0_slots:List (Nat×AV):=zfM (.lit 0) [(.lit 0,3)]
def Tryz.ckb0_lents:List LEnt:= []
def Tryz.ckb0_aents:List AEnt:= []
def Tryz.ckb0_dfr:Option AV:=some ckD
def Tryz.ckb0_asm:List (SB×Bool):= []
def Tryz.ckb0_ls:List CLeaf:= [
 ⟨.ret,[2],(some (.tup [.func 118 [] [.ptr 1 0,.ptr 2 0],.tup []])),⟨.tup [.ptr 1 0],[(1,[.int .i64 (.lit 2)]),(2,[.int .u64 (u64v 2)])],[],0,[1,2]⟩⟩,
 ⟨.normal,[0,2,3,10,11,12],(some (.tup [.func 118 [] [.ptr 1 0,.ptr 2 0],.tup []])),⟨.tup [.sx 0 ((lnv 0)) 3 [((.lit 0),3)],.ptr 1 0,.ptr 2 0,.sx 0 ((lnv 0)) 3 [((.lit 0),3)],.int .i64 (lnv 0),.int .i64 (.lit 1)],[(1,[.int .i64 (.lit 0)]),(2,[.int .u64 (.bin .add .u64 (u64v 2) (u32v 4))])],[],0,[1,2]⟩⟩,
 ⟨(.exit 0),[2],(some (.tup [.func 118 [] [.ptr 1 0,.ptr 2 0],.tup []])),⟨.tup [.ptr 1 0],[(1,[.int .i64 (.lit 0)]),(2,[.int .u64 (u64v 2)])],[],0,[1,2]⟩⟩]
def Tryz.ckb0_ps:List (List (SB×Bool)×Nat):= [
 ([((.cmp .lss (.lit 0) (lnv 0)),true),((.cmp .lss (u32v 4) (.lit 1)),true)],0),
 ([((.cmp .lss (.lit 0) (lnv 0)),true),((.cmp .lss (u32v 4) (.lit 1)),false),((.cmp .gtr (.bin .sub .u64 (u32v 4) (.lit 1)) (.bin .sub .u64 (.lit 18446744073709551615) (u64v 3))),true)],0),
 ([((.cmp .lss (.lit 0) (lnv 0)),true),((.cmp .lss (u32v 4) (.lit 1)),false),((.cmp .gtr (.bin .sub .u64 (u32v 4) (.lit 1)) (.bin .sub .u64 (.lit 18446744073709551615) (u64v 3))),false)],1),
 ([((.cmp .lss (.lit 0) (lnv 0)),false)],2)]
theorem Tryz.ckb0_run:(evL prog (entOrc ckb0_ents) (zao ckb0_lents) (aentOrc ckb0_aents) 100000 (.code (codeR prog [0,0,1,0,1,1,1,1,88]) [0,0,1,0,1,1,1,1,88] 53 (envS 53 ckb0_slots ckb0_dfr) (zaj 0 ckb0_shs) (cleafAt ckb0_ls 0))).ways ckb0_asm=some ckb0_ps:=by kernel_rfl
theorem Tryz.ckb0_ok:(shsSmall ckb0_shs&&entsSmall ckb0_ents&&lentsSmall ckb0_lents&&aentsSmall ckb0_aents&&slotsSmall ckb0_slots&&cleavesExact ckb0_ls&&zaq 53 ckb0_slots&&Nat.ble 53 dslot&&dfrSmall ckb0_dfr)=true:=by kernel_rfl

def Tryz.ckb1_ents:List Ent:= []
def Tryz.ckb1_shs:List Sh:=zqo (.lit 0) [ckEl 3 4 0,ckEl 5 6 1]
def Tryz.ckb1_slots:List (Nat×AV):=zfM (lnv 1) [(lnv 1,3),(.bin .sub .i64 (lnv 1) (.lit 1),4)]
def Tryz.ckb1_lents:List LEnt:= []
def Tryz.ckb1_aents:List AEnt:= []
def Tryz.ckb1_dfr:Option AV:=some ckD
def Tryz.ckb1_asm:List (SB×Bool):= [(.cmp .lss (lnv 1) (lnv 0),true),(.cmp .gtr (lnv 1) (.lit 0),true)]
def Tryz.ckb1_ls:List CLeaf:= [
 ⟨.ret,[2],(some (.tup [.func 118 [] [.ptr 1 0,.ptr 2 0],.tup []])),⟨.tup [.ptr 1 0],[(1,[.int .i64 (.lit 2)]),(2,[.int .u64 (u64v 2)])],[],0,[1,2]⟩⟩,
 ⟨.normal,[0,2,3,10,11,12],(some (.tup [.func 118 [] [.ptr 1 0,.ptr 2 0],.tup []])),⟨.tup [.sx 0 ((lnv 0)) 3 [((lnv 1),3),((.bin .sub .i64 (lnv 1) (.lit 1)),4)],.ptr 1 0,.ptr 2 0,.sx 0 ((lnv 0)) 3 [((lnv 1),3),((.bin .sub .i64 (lnv 1) (.lit 1)),4)],.int .i64 (lnv 0),.int .i64 (.bin .add .i64 (lnv 1) (.lit 1))],[(1,[.int .i64 (.lit 0)]),(2,[.int .u64 (.bin .add .u64 (u64v 2) (u32v 4))])],[],0,[1,2]⟩⟩]
def Tryz.ckb1_ps:List (List (SB×Bool)×Nat):= [
 ([((.cmp .lss (u32v 4) (.lit 1)),true)],0),
 ([((.cmp .lss (u32v 4) (.lit 1)),false),((.cmp .gtr (.bin .sub .u64 (u32v 4) (.lit 1)) (.bin .sub .u64 (.lit 18446744073709551615) (u64v 3))),true)],0),
 ([((.cmp .lss (u32v 4) (.lit 1)),false),((.cmp .gtr (.bin .sub .u64 (u32v 4) (.lit 1)) (.bin .sub .u64 (.lit 18446744073709551615) (u64v 3))),false),(.var 1,true),(.var 0,false)],0),
 ([((.cmp .lss (u32v 4) (.lit 1)),false),((.cmp .gtr (.bin .sub .u64 (u32v 4) (.lit 1)) (.bin .sub .u64 (.lit 18446744073709551615) (u64v 3))),false),(.var 1,true),(.var 0,true)],1),
 ([((.cmp .lss (u32v 4) (.lit 1)),false),((.cmp .gtr (.bin .sub .u64 (u32v 4) (.lit 1)) (.bin .sub .u64 (.lit 18446744073709551615) (u64v 3))),false),(.var 1,false)],1)]
theorem Tryz.ckb1_run:(evL prog (entOrc ckb1_ents) (zao ckb1_lents) (aentOrc ckb1_aents) 100000 (.code (codeR prog [0,0,1,0,1,1,1,1,88]) [0,0,1,0,1,1,1,1,88] 53 (envS 53 ckb1_slots ckb1_dfr) (zaj 0 ckb1_shs) (cleafAt ckb1_ls 0))).ways ckb1_asm=some ckb1_ps:=by kernel_rfl
theorem Tryz.ckb1_ok:(shsSmall ckb1_shs&&entsSmall ckb1_ents&&lentsSmall ckb1_lents&&aentsSmall ckb1_aents&&slotsSmall ckb1_slots&&cleavesExact ckb1_ls&&zaq 53 ckb1_slots&&Nat.ble 53 dslot&&dfrSmall ckb1_dfr)=true:=by kernel_rfl

def Tryz.ckbe_ents:List Ent:= []
def Tryz.ckbe_shs:List Sh:=zqo (.lit 0) []
def Tryz.ckbe_slots:List (Nat×AV):=zfM (lnv 1) []
def Tryz.ckbe_lents:List LEnt:= []
def Tryz.ckbe_aents:List AEnt:= []
def Tryz.ckbe_dfr:Option AV:=some ckD
def Tryz.ckbe_asm:List (SB×Bool):= [(.cmp .lss (lnv 1) (lnv 0),false)]
def Tryz.ckbe_ls:List CLeaf:= [
 ⟨(.exit 0),[2],(some (.tup [.func 118 [] [.ptr 1 0,.ptr 2 0],.tup []])),⟨.tup [.ptr 1 0],[(1,[.int .i64 (.lit 0)]),(2,[.int .u64 (u64v 2)])],[],0,[1,2]⟩⟩]
def Tryz.ckbe_ps:List (List (SB×Bool)×Nat):= [
 ([], 0)]
theorem Tryz.ckbe_run:(evL prog (entOrc ckbe_ents) (zao ckbe_lents) (aentOrc ckbe_aents) 100000 (.code (codeR prog [0,0,1,0,1,1,1,1,88]) [0,0,1,0,1,1,1,1,88] 53 (envS 53 ckbe_slots ckbe_dfr) (zaj 0 ckbe_shs) (cleafAt ckbe_ls 0))).ways ckbe_asm=some ckbe_ps:=by kernel_rfl
theorem Tryz.ckbe_ok:(shsSmall ckbe_shs&&entsSmall ckbe_ents&&lentsSmall ckbe_lents&&aentsSmall ckbe_aents&&slotsSmall ckbe_slots&&cleavesExact ckbe_ls&&zaq 53 ckbe_slots&&Nat.ble 53 dslot&&dfrSmall ckbe_dfr)=true:=by kernel_rfl

def Tryz.ckt_ents:List Ent:= []
def Tryz.ckt_shs:List Sh:=zqo (.lit 0) []
def Tryz.ckt_slots:List (Nat×AV):= [(2,.ptr 1 0)]
def Tryz.ckt_lents:List LEnt:= []
def Tryz.ckt_aents:List AEnt:= []
def Tryz.ckt_dfr:Option AV:=some ckD
def Tryz.ckt_asm:List (SB×Bool):= []
def Tryz.ckt_ls:List CLeaf:= [
 ⟨.ret,[2],(some (.tup [.func 118 [] [.ptr 1 0,.ptr 2 0],.tup []])),⟨.tup [.ptr 1 0],[(1,[.int .i64 (.lit 0)]),(2,[.int .u64 (u64v 2)])],[],0,[1,2]⟩⟩]
def Tryz.ckt_ps:List (List (SB×Bool)×Nat):= [
 ([], 0)]
theorem Tryz.ckt_run:(evL prog (entOrc ckt_ents) (zao ckt_lents) (aentOrc ckt_aents) 100000 (.code (codeR prog [1,1,1,1,1,88]) [1,1,1,1,1,88] 53 (envS 53 ckt_slots ckt_dfr) (zaj 0 ckt_shs) (cleafAt ckt_ls 0))).ways ckt_asm=some ckt_ps:=by kernel_rfl
theorem Tryz.ckt_ok:(shsSmall ckt_shs&&entsSmall ckt_ents&&lentsSmall ckt_lents&&aentsSmall ckt_aents&&slotsSmall ckt_slots&&cleavesExact ckt_ls&&zaq 53 ckt_slots&&Nat.ble 53 dslot&&dfrSmall ckt_dfr)=true:=by kernel_rfl
end Go.Proofs
namespace Go.Proofs
open Go.Dw Go.RowKit

def Tryz.zaR (pw:Bool) (sum:Int):List Sg→Int
 | [] => if 4294967296≤sum then 2 else 0
 | x::r=>if x.len<1∨18446744073709551615-x.at1<x.len-1∨(pw=true∧x.wr=false) then 2 else zaR x.wr (sum+x.len) r
def Tryz.zaO (l:List Sg):Int:=if 64<l.length then 3 else zaR false 0 l
theorem Tryz.zbu {P:Program} {c c':Code} {Q:Exit→Act→World→Prop} {a:Act} {w:World} (e:c=c') (h:c'.wp P Q a w):c.wp P Q a w:=e▸h
structure Tryz.CkI (l:List Sg) (sa:Option Addr) (c E C:Nat) (w0:World) (k:Nat) (a:Act) (w:World):Prop where
 kl:k≤l.length
 size:a.tmps.size=53
 s0:a.tmps.getD 0 undef= .slice sa l.length c
 s2:a.tmps.getD 2 undef= .pointer (some ⟨E,0,none⟩)
 s3:a.tmps.getD 3 undef= .pointer (some ⟨C,0,none⟩)
 s10:a.tmps.getD 10 undef= .slice sa l.length c
 s11:a.tmps.getD 11 undef= .int .i64 l.length
 s12:a.tmps.getD 12 undef= .int .i64 k
 dfr: ∃d,a.defers= [d]∧ ∃args cap,d.target= .fn (.func 118) cap∧d.args=args∧(args++cap).toList= [.pointer (some ⟨E,0,none⟩),.pointer (some ⟨C,0,none⟩)]
 mv:Dw.Mv (fun b=>b=E∨b=C) w0 w
 sum: ∃pw s,Own w E [.int .i64 0]∧Own w C [.int .u64 s]∧0≤s∧s≤k*4294967296∧zaR pw s (l.drop k)=zaR false 0 l∧(k=0→pw=false)∧(∀i,k=i+1→ ∃h:i<l.length,pw=l[i].wr)
def Tryz.zbw (n k s:Int) (x y:Sg) (sl:Value):Val:=vof [n,k,s,x.at1,x.len,y.at1,y.len] [x.wr,y.wr] [sl]
theorem Tryz.zf1 {ρ:Val} {j:J} {E C:Nat} {ds:List Deferred} (h:DRo ρ j (some ckD) ds) (h1:j 1=some ⟨E,0,0,none⟩) (h2:j 2=some ⟨C,0,0,none⟩):
  ∃ d,ds= [d]∧ ∃args cap,d.target= .fn (.func 118) cap∧d.args=args∧(args++cap).toList= [.pointer (some ⟨E,0,none⟩),.pointer (some ⟨C,0,none⟩)]:=by
 cases ds with
 | nil=>cases h
 | cons d ds=>
  obtain ⟨g,args,rest,cap,e1,e2,e3,e4⟩:=h
  unfold ckD at e1
  cases e1
  cases ds with
  | cons d' ds'=>obtain ⟨_,_,_,_,e,_⟩:=e4;cases e
  | nil=>
   refine ⟨d,rfl,d.args,cap,e2,rfl,?_⟩
   obtain ⟨v1,m1,q1,⟨L1,r1,rfl⟩,v2,m2,rfl,⟨L2,r2,rfl⟩,q3⟩:=e3
   rw [h1] at r1;cases r1
   rw [h2] at r2;cases r2
   have q3:m2= []:=q3
   rw [q1,q3]
theorem Tryz.ck_dfr' {ρ:Val} {j:J} {E C:Nat} {ds:List Deferred} (h1:j 1=some ⟨E,0,0,none⟩) (h2:j 2=some ⟨C,0,0,none⟩)
  (h: ∃d,ds= [d]∧ ∃args cap,d.target= .fn (.func 118) cap∧d.args=args∧(args++cap).toList= [.pointer (some ⟨E,0,none⟩),.pointer (some ⟨C,0,none⟩)]):DRo ρ j (some ckD) ds:=by
 obtain ⟨d,rfl,args,cap,e1,rfl,e3⟩:=h
 exact ⟨_,_,_,cap,rfl,e1,by rw [e3];exact zaa (zaK h1) (zaa (zaK h2) RL.nil),rfl⟩
theorem Tryz.zju {w:World} {R o:Nat} {vs:List Value} (h:w.rangeAt R o vs) (h0:vs≠ []): ∃(arr:Array Value) (e:TypeId) (fr:Nat×Nat),w.heap[R]? =some (.cells arr e fr)∧o+vs.length≤arr.size∧ ∀(i:Nat) (y:Value),vs[i]? =some y→arr[o+i]? =some y:=by
 have hc: ∀(i:Nat) (y:Value),vs[i]? =some y→ ∃arr e fr,w.heap[R]? =some (.cells arr e fr)∧arr[o+i]? =some y:=fun i y hy=>by
  have:=h i y hy
  unfold World.cell? at this
  split at this
  ·rename_i arr e fr he
   exact ⟨arr,e,fr,he,this⟩
  ·cases this
 obtain ⟨y0,hy0⟩: ∃y,vs[0]? =some y:=⟨vs[0]'(List.length_pos_iff.2 h0),List.getElem?_eq_getElem (List.length_pos_iff.2 h0)⟩
 obtain ⟨arr,e,fr,he,_⟩:=hc 0 y0 hy0
 refine ⟨arr,e,fr,he,?_,fun i y hy=> ?_⟩
 ·have hl:vs.length-1<vs.length:=by have:=List.length_pos_iff.2 h0;omega
  obtain ⟨arr',e',fr',he',hy'⟩:=hc (vs.length-1) _ (List.getElem?_eq_getElem hl)
  rw [he] at he';cases he'
  have:=(Array.getElem?_eq_some_iff.1 hy').1
  omega
 ·obtain ⟨arr',e',fr',he',hy'⟩:=hc i y hy
  rw [he] at he';cases he'
  exact hy'
theorem Tryz.zaw {w:World} {X o:Nat} {ρ:Val} {j:J} {K:Nat→Prop} {g:Gho} {row:List AV} {vals:List Value} (h:w.rangeAt X o vals) (h0:vals≠ []) (hr:RL ρ j row vals) (hK: ¬K X):ShOk ρ j (cxOf w K g) (X,o) (.ro row):=by
 obtain ⟨arr,e,fr,h1,h2,h3⟩:=zju h h0
 exact ⟨hK,vals,arr,e,fr,h1,hr,by rw [←RL.length hr];exact h2,h3⟩
end Go.Proofs
namespace Go.Proofs
open Go.Dw Go.RowKit

structure Tryz.CkO (E C:Nat) (w0:World) (e s:Int) (a:Act) (w:World):Prop where
 size:a.tmps.size=53
 s2:a.tmps.getD 2 undef= .pointer (some ⟨E,0,none⟩)
 dfr: ∃d,a.defers= [d]∧ ∃args cap,d.target= .fn (.func 118) cap∧d.args=args∧(args++cap).toList= [.pointer (some ⟨E,0,none⟩),.pointer (some ⟨C,0,none⟩)]
 mv:Dw.Mv (fun b=>b=E∨b=C) w0 w
 oE:Own w E [.int .i64 e]
 oC:Own w C [.int .u64 s]
theorem Tryz.zal {ρ:Val} {lc:Nat→Dw.Loc} {L:List Value} {vs:List AV} (h:Ending.returned (.tuple L.toArray)= .returned ((AV.tup vs).val ρ lc)):L=AV.valL ρ lc vs:=by
 injection h with h
 unfold AV.val at h
 injection h with h
 simpa using congrArg Array.toList h
set_option maxHeartbeats 1000000 in
theorem Tryz.zqn {l:List Sg} {sa:Option Addr} {c E C:Nat} {w0:World} {k:Nat} {a:Act} {w:World} (h:CkI l sa c E C w0 k a w) (hl:l.length≤64) (hok: ∀x∈l,x.ok) (hne:E≠C) (hE:E<w0.heap.size) (hC:C<w0.heap.size)
    (hr:l= []∨ ∃R o,sa=some ⟨R,o,none⟩∧R≠E∧R≠C∧w0.rangeAt R o (zaA l)):
    (codeR prog [0,0,1,0,1,1,1,1,88]).wp prog (fun ex a' w'=>match ex with
      | .normal=>k<l.length∧CkI l sa c E C w0 (k+1) a' w'
      | ex=>(ex= .ret∧zaR false 0 l=2∧ ∃s,CkO E C w0 2 s a' w')∨(ex= .exit 0∧ ∃s,0≤s∧s<18446744073709551616∧zaR false 0 l=(if 4294967296≤s then 2 else 0)∧CkO E C w0 0 s a' w')) a w:=by
  obtain ⟨kl,size,s0,s2,s3,s10,s11,s12,dfr,mv,pw,s,oE,oC,hs0,hs1,hsw,hp0,hp1⟩:=h
  have hEw:E<w.heap.size:=zdK oE
  have hCw:C<w.heap.size:=zdK oC
  have hK: ∀b,(b=E∨b=C)→b<w.heap.size:=fun b hb=>by rcases hb with rfl|rfl<;>assumption
  by_cases hkl:k<l.length
  · rcases hr with h0|⟨R,o,rfl,hRE,hRC,hr⟩
    · rw [h0] at hkl;simp at hkl
    have hRw0:=zcZ hr (by intro h0;rw [h0] at hkl;simp at hkl)
    have hrw:w.rangeAt R o (zaA l):=zat hr (mv.block R hRw0 (by rintro (e|e)<;>contradiction))
    have hx:=zcm hrw k hkl
    have hxo:=hok l[k] (List.getElem_mem hkl)
    rw [List.drop_eq_getElem_cons hkl] at hsw
    have hKR: ¬(R=E∨R=C):=by rintro (e|e)<;>contradiction
    generalize hX:l[k]=X at hx hxo hsw
    obtain ⟨xa0,xa1,xl0,xl1⟩:=hxo
    rw [zaR] at hsw
    have fin: ∀ {a':Act} {w':World} {ρ:Val} {j:J},a'.tmps.size=53→DRo ρ j (some ckD) a'.defers→j 1=some ⟨E,0,0,none⟩→j 2=some ⟨C,0,0,none⟩→Dw.Mv (fun b=>b=E∨b=C) w w'→
        Own w' E [.int .i64 0]→Own w' C [.int .u64 (s+X.len)]→
        ([0,2,3,10,11,12].map fun t=>a'.tmps.getD t undef)= [.slice (some ⟨R,o,none⟩) l.length c,.pointer (some ⟨E,0,none⟩),.pointer (some ⟨C,0,none⟩),.slice (some ⟨R,o,none⟩) l.length c,.int .i64 l.length,.int .i64 (k+1)]→
        zaR X.wr (s+X.len) (l.drop (k+1))=zaR false 0 l→k<l.length∧CkI l (some ⟨R,o,none⟩) c E C w0 (k+1) a' w':=fun {a' w' ρ j} q1 q2 q3 q4 q5 q6 q7 q8 q9=>by
      simp only [List.map_cons,List.map_nil,List.cons.injEq,and_true] at q8
      obtain ⟨t0,t2,t3,t10,t11,t12⟩:=q8
      refine ⟨hkl,⟨by omega,q1,t0,t2,t3,t10,t11,by rw [t12];norm_cast,zf1 q2 q3 q4,mv.trans q5,X.wr,s+X.len,q6,q7,by omega,by push_cast;omega,q9,by omega,fun i hi=> ?_⟩⟩
      have:k=i:=by omega
      subst this
      exact ⟨hkl,by rw [hX]⟩
    have hden: ∀(n k' s':Int) (x y:Sg) (sl:Value),n=l.length→0≤k'→k'<64→0≤s'→s'<18446744073709551616→x.ok→(lnv 0).den (zbw n k' s' x y sl)=l.length∧(lnv 1).den (zbw n k' s' x y sl)=k'∧(u64v 2).den (zbw n k' s' x y sl)=s'∧(u64v 3).den (zbw n k' s' x y sl)=x.at1∧(u32v 4).den (zbw n k' s' x y sl)=x.len:=fun n k' s' x y sl h1 h2 h3 h4 h5 h6=>by
      subst h1
      exact ⟨zaB (by show (0:Int)≤l.length;omega) (by show ((l.length:Nat):Int)<_;omega),zaB h2 (by show k'<_;omega),zav h4 h5,zav h6.1 h6.2.1,zbp h6.2.2.1 h6.2.2.2⟩
    have hXok:X.ok:=⟨xa0,xa1,xl0,xl1⟩
    have hwl:IntKind.wrap .u64 (X.len-1)=(X.len-1)%18446744073709551616:=zdB _
    have hwa:IntKind.wrap .u64 (18446744073709551615-X.at1)=18446744073709551615-X.at1:=zay (by omega) (by omega)
    have hws:IntKind.wrap .u64 (s+X.len)=s+X.len:=zay (by omega) (by omega)
    rcases Nat.eq_zero_or_pos k with hk0|hk0
    · subst hk0
      have hpw:=hp0 rfl
      subst hpw
      obtain ⟨d0,d1,d2,d3,d4⟩:=hden l.length 0 s X X (.slice (some ⟨R,o,none⟩) l.length c) rfl (by omega) (by omega) hs0 (by omega) hXok
      have hj1:jOf [(E,0),(C,0),(R,o)] 1=some ⟨E,0,0,none⟩:=rfl
      have hj2:jOf [(E,0),(C,0),(R,o)] 2=some ⟨C,0,0,none⟩:=rfl
      have hj3:jOf [(E,0),(C,0),(R,o)] 3=some ⟨R,o,0,none⟩:=rfl
      have hsx:Dw.R (zbw l.length 0 s X X (.slice (some ⟨R,o,none⟩) l.length c)) (jOf [(E,0),(C,0),(R,o)]) (ckL [(.lit 0,3)]) (.slice (some ⟨R,o,none⟩) l.length c):=⟨rfl,_,_,_,rfl,d0.symm,⟨R,o,_,0,rfl,hj3,rfl,rfl,hkl,rfl⟩,trivial⟩
      refine wp_mono (zam (ρ:=zbw l.length 0 s X X (.slice (some ⟨R,o,none⟩) l.length c)) (K:=fun b=>b=E∨b=C) (g:=Gho.none) (bl:= [(E,0),(C,0),(R,o)]) mixed ckb0_run ckb0_ok hK
        ⟨zaV oE (zaa (zab rfl) RL.nil) (.inl rfl),zaV oC (zaa (zab d2) RL.nil) (.inr rfl),zaw hx (by unfold Sg.cells;simp) (zaa (zab d3) (zaa (zab d4) (zaa (zaH rfl) RL.nil))) hKR,trivial⟩
        ⟨fun _ i b' s' h1 h2 h3=>(by match i,h1,h2 with|0,h1,_=>cases h1;exact hne|1,_,h2=>cases h2;cases h3|i+2,h1,_=>cases h1),fun _ i b' s' h1 h2 h3=>(by match i,h1,h2 with|0,_,h2=>cases h2;cases h3|i+1,h1,_=>cases h1),fun h=>(by cases h),trivial⟩
        zas trivial trivial trivial size (ck_dfr' hj1 hj2 dfr) ?_ (told_nil.2 trivial)) fun ex a' w' hh=> ?_
      · intro t ht
        simp only [ckb0_slots,zfM,List.mem_cons,List.not_mem_nil,or_false] at ht
        rcases ht with rfl|rfl|rfl|rfl|rfl|rfl
        · rw [s0];exact hsx
        · rw [s2];exact zaK hj1
        · rw [s3];exact zaK hj2
        · rw [s10];exact hsx
        · rw [s11];exact zab d0
        · rw [s12];exact zab rfl
      · obtain ⟨q,hq,hto,lf,hlf,rfl,hsz,j,hdf,he⟩:=hh
        have hj1':=he.sub _ _ hj1
        have hj2':=he.sub _ _ hj2
        unfold ckb0_ps at hq
        simp only [List.mem_cons,List.not_mem_nil,or_false] at hq
        rcases hq with rfl|rfl|rfl|rfl
        all_goals
          simp only [told_cons_iff,told_nil,zaP,zaz,zau,zax,zac,d0,d1,d2,d3,d4,hwl,hwa,decide_eq_true_eq,decide_eq_false_iff_not,and_true] at hto
          cases hlf
        · exact .inl ⟨rfl,by rw [←hsw,if_pos (by omega)],_,hsz,by have:=zal he.ret;simpa [AV.valL,AV.val,zad hj1'] using this,zf1 hdf hj1' hj2',mv.trans he.mv,(he.rows.1 _ hj1').2 (.inr (.inl rfl)) rfl,(he.rows.2.1 _ hj2').2 (.inr (.inr rfl)) rfl⟩
        · exact .inl ⟨rfl,by rw [←hsw,if_pos (by omega)],_,hsz,by have:=zal he.ret;simpa [AV.valL,AV.val,zad hj1'] using this,zf1 hdf hj1' hj2',mv.trans he.mv,(he.rows.1 _ hj1').2 (.inr (.inl rfl)) rfl,(he.rows.2.1 _ hj2').2 (.inr (.inr rfl)) rfl⟩
        · refine fin hsz hdf hj1' hj2' he.mv ((he.rows.1 _ hj1').2 (.inr (.inl rfl)) rfl) ?_ ?_ ?_
          · have:=(he.rows.2.1 _ hj2').2 (.inr (.inr rfl)) rfl
            simpa only [AV.valL,AV.val,den_add,d2,d4,hws] using this
          · have:=zal he.ret
            rw [this]
            simp only [AV.valL,AV.val,zad hj1',zad hj2',d0,zac]
            rfl
          · rw [←hsw,if_neg (by rintro (h|h|⟨h,_⟩);omega;omega;cases h)]
        · omega
    · obtain ⟨i,rfl⟩: ∃i,k=i+1:=⟨k-1,by omega⟩
      obtain ⟨hil,hpw⟩:=hp1 i rfl
      have hy:=zcm hrw i hil
      have hyo:=hok l[i] (List.getElem_mem hil)
      generalize hY:l[i]=Y at hy hyo hpw
      subst hpw
      have hkk:IntKind.wrap .i64 (((i+1:Nat):Int)+1)=((i+1:Nat):Int)+1:=zbM (by omega) (by omega)
      have hk1:IntKind.wrap .i64 (((i+1:Nat):Int)-1)=(i:Int):=by rw [zbM (by omega) (by omega)];omega
      obtain ⟨d0,d1,d2,d3,d4⟩:=hden l.length (i+1:Nat) s X Y (.slice (some ⟨R,o,none⟩) l.length c) rfl (by omega) (by omega) hs0 (by omega) hXok
      have hj1:jOf [(E,0),(C,0),(R,o+3*(i+1)),(R,o+3*i)] 1=some ⟨E,0,0,none⟩:=rfl
      have hj2:jOf [(E,0),(C,0),(R,o+3*(i+1)),(R,o+3*i)] 2=some ⟨C,0,0,none⟩:=rfl
      have hj3:jOf [(E,0),(C,0),(R,o+3*(i+1)),(R,o+3*i)] 3=some ⟨R,o+3*(i+1),0,none⟩:=rfl
      have hj4:jOf [(E,0),(C,0),(R,o+3*(i+1)),(R,o+3*i)] 4=some ⟨R,o+3*i,0,none⟩:=rfl
      have hsx:Dw.R (zbw l.length (i+1:Nat) s X Y (.slice (some ⟨R,o,none⟩) l.length c)) (jOf [(E,0),(C,0),(R,o+3*(i+1)),(R,o+3*i)]) (ckL [(lnv 1,3),(.bin .sub .i64 (lnv 1) (.lit 1),4)]) (.slice (some ⟨R,o,none⟩) l.length c):=⟨rfl,_,_,_,rfl,d0.symm,⟨R,o,_,i+1,rfl,hj3,rfl,d1,hkl,rfl⟩,⟨R,o,_,i,rfl,hj4,rfl,by rw [zax,d1,zac];exact hk1,hil,rfl⟩,trivial⟩
      refine wp_mono (zam (ρ:=zbw l.length (i+1:Nat) s X Y (.slice (some ⟨R,o,none⟩) l.length c)) (K:=fun b=>b=E∨b=C) (g:=Gho.none) (bl:= [(E,0),(C,0),(R,o+3*(i+1)),(R,o+3*i)]) mixed ckb1_run ckb1_ok hK
        ⟨zaV oE (zaa (zab rfl) RL.nil) (.inl rfl),zaV oC (zaa (zab d2) RL.nil) (.inr rfl),zaw hx (by unfold Sg.cells;simp) (zaa (zab d3) (zaa (zab d4) (zaa (zaH rfl) RL.nil))) hKR,zaw hy (by unfold Sg.cells;simp) (zaa (zab (zav hyo.1 hyo.2.1)) (zaa (zab (zbp hyo.2.2.1 hyo.2.2.2)) (zaa (zaH rfl) RL.nil))) hKR,trivial⟩
        ⟨fun _ i b' s' h1 h2 h3=>(by match i,h1,h2 with|0,h1,_=>cases h1;exact hne|1,_,h2=>cases h2;cases h3|2,_,h2=>cases h2;cases h3|i+3,h1,_=>cases h1),fun _ i b' s' h1 h2 h3=>(by match i,h1,h2 with|0,_,h2=>cases h2;cases h3|1,_,h2=>cases h2;cases h3|i+2,h1,_=>cases h1),fun h=>(by cases h),fun h=>(by cases h),trivial⟩
        zas trivial trivial trivial size (ck_dfr' hj1 hj2 dfr) ?_ (told_cons_iff.2 ⟨by rw [zaz,d0,d1];simp only [decide_eq_true_eq];omega,told_cons_iff.2 ⟨by rw [zaP,d1,zac];simp only [decide_eq_true_eq];omega,told_nil.2 trivial⟩⟩)) fun ex a' w' hh=> ?_
      · intro t ht
        simp only [ckb1_slots,zfM,List.mem_cons,List.not_mem_nil,or_false] at ht
        rcases ht with rfl|rfl|rfl|rfl|rfl|rfl
        · rw [s0];exact hsx
        · rw [s2];exact zaK hj1
        · rw [s3];exact zaK hj2
        · rw [s10];exact hsx
        · rw [s11];exact zab d0
        · rw [s12];exact zab d1
      · obtain ⟨q,hq,hto,lf,hlf,rfl,hsz,j,hdf,he⟩:=hh
        have hj1':=he.sub _ _ hj1
        have hj2':=he.sub _ _ hj2
        unfold ckb1_ps at hq
        simp only [List.mem_cons,List.not_mem_nil,or_false] at hq
        rcases hq with rfl|rfl|rfl|rfl|rfl
        all_goals
          simp only [told_cons_iff,told_nil,zaP,zaz,zau,zax,zac,d0,d1,d2,d3,d4,hwl,hwa,decide_eq_true_eq,decide_eq_false_iff_not,and_true] at hto
          cases hlf
        · exact .inl ⟨rfl,by rw [←hsw,if_pos (by omega)],_,hsz,by have:=zal he.ret;simpa [AV.valL,AV.val,zad hj1'] using this,zf1 hdf hj1' hj2',mv.trans he.mv,(he.rows.1 _ hj1').2 (.inr (.inl rfl)) rfl,(he.rows.2.1 _ hj2').2 (.inr (.inr rfl)) rfl⟩
        · exact .inl ⟨rfl,by rw [←hsw,if_pos (by omega)],_,hsz,by have:=zal he.ret;simpa [AV.valL,AV.val,zad hj1'] using this,zf1 hdf hj1' hj2',mv.trans he.mv,(he.rows.1 _ hj1').2 (.inr (.inl rfl)) rfl,(he.rows.2.1 _ hj2').2 (.inr (.inr rfl)) rfl⟩
        · exact .inl ⟨rfl,by rw [←hsw,if_pos (.inr (.inr ⟨hto.2.2.1,hto.2.2.2⟩))],_,hsz,by have:=zal he.ret;simpa [AV.valL,AV.val,zad hj1'] using this,zf1 hdf hj1' hj2',mv.trans he.mv,(he.rows.1 _ hj1').2 (.inr (.inl rfl)) rfl,(he.rows.2.1 _ hj2').2 (.inr (.inr rfl)) rfl⟩
        · refine fin hsz hdf hj1' hj2' he.mv ((he.rows.1 _ hj1').2 (.inr (.inl rfl)) rfl) ?_ ?_ ?_
          · have:=(he.rows.2.1 _ hj2').2 (.inr (.inr rfl)) rfl
            simpa only [AV.valL,AV.val,den_add,d2,d4,hws] using this
          · have:=zal he.ret
            rw [this]
            simp only [AV.valL,AV.val,zad hj1',zad hj2',d0,d1,den_add,zac,hkk]
            rfl
          · rw [←hsw,if_neg (by rintro (h|h|⟨h,h'⟩);omega;omega;exact absurd (h'.symm.trans hto.2.2.2) (by decide))]
        · refine fin hsz hdf hj1' hj2' he.mv ((he.rows.1 _ hj1').2 (.inr (.inl rfl)) rfl) ?_ ?_ ?_
          · have:=(he.rows.2.1 _ hj2').2 (.inr (.inr rfl)) rfl
            simpa only [AV.valL,AV.val,den_add,d2,d4,hws] using this
          · have:=zal he.ret
            rw [this]
            simp only [AV.valL,AV.val,zad hj1',zad hj2',d0,d1,den_add,zac,hkk]
            rfl
          · rw [←hsw,if_neg (by rintro (h|h|⟨h,h'⟩);omega;omega;exact absurd (h.symm.trans hto.2.2) (by decide))]
  · have hkk:k=l.length:=by omega
    subst hkk
    rw [List.drop_length,zaR] at hsw
    have d0:(lnv 0).den (zbw l.length l.length s ⟨0,0,false⟩ ⟨0,0,false⟩ (.slice sa l.length c))=l.length:=zaB (by show (0:Int)≤l.length;omega) (by show ((l.length:Nat):Int)<_;omega)
    have d1:(lnv 1).den (zbw l.length l.length s ⟨0,0,false⟩ ⟨0,0,false⟩ (.slice sa l.length c))=l.length:=zaB (by show (0:Int)≤l.length;omega) (by show ((l.length:Nat):Int)<_;omega)
    have d2:(u64v 2).den (zbw l.length l.length s ⟨0,0,false⟩ ⟨0,0,false⟩ (.slice sa l.length c))=s:=zav hs0 (by show s<_;omega)
    have hj1:jOf [(E,0),(C,0)] 1=some ⟨E,0,0,none⟩:=rfl
    have hj2:jOf [(E,0),(C,0)] 2=some ⟨C,0,0,none⟩:=rfl
    have hsx:Dw.R (zbw l.length l.length s ⟨0,0,false⟩ ⟨0,0,false⟩ (.slice sa l.length c)) (jOf [(E,0),(C,0)]) (ckL []) (.slice sa l.length c):=⟨rfl,_,_,_,rfl,d0.symm,trivial⟩
    refine wp_mono (zam (ρ:=zbw l.length l.length s ⟨0,0,false⟩ ⟨0,0,false⟩ (.slice sa l.length c)) (K:=fun b=>b=E∨b=C) (g:=Gho.none) (bl:= [(E,0),(C,0)]) mixed ckbe_run ckbe_ok hK
      ⟨zaV oE (zaa (zab rfl) RL.nil) (.inl rfl),zaV oC (zaa (zab d2) RL.nil) (.inr rfl),trivial⟩
      ⟨fun _ i b' s' h1 h2 h3=>(by match i,h1,h2 with|0,h1,_=>cases h1;exact hne|i+1,h1,_=>cases h1),fun _ i b' s' h1 h2 h3=>(by cases h1),trivial⟩
      zas trivial trivial trivial size (ck_dfr' hj1 hj2 dfr) ?_ (told_cons_iff.2 ⟨by rw [zaz,d0,d1];simp,told_nil.2 trivial⟩)) fun ex a' w' hh=> ?_
    · intro t ht
      simp only [ckbe_slots,zfM,List.mem_cons,List.not_mem_nil,or_false] at ht
      rcases ht with rfl|rfl|rfl|rfl|rfl|rfl
      · rw [s0];exact hsx
      · rw [s2];exact zaK hj1
      · rw [s3];exact zaK hj2
      · rw [s10];exact hsx
      · rw [s11];exact zab d0
      · rw [s12];exact zab d1
    · obtain ⟨q,hq,hto,lf,hlf,rfl,hsz,j,hdf,he⟩:=hh
      have hj1':=he.sub _ _ hj1
      have hj2':=he.sub _ _ hj2
      unfold ckbe_ps at hq
      simp only [List.mem_cons,List.not_mem_nil,or_false] at hq
      subst hq
      cases hlf
      refine .inr ⟨rfl,s,hs0,by omega,hsw.symm,hsz,by have:=zal he.ret;simpa [AV.valL,AV.val,zad hj1'] using this,zf1 hdf hj1' hj2',mv.trans he.mv,(he.rows.1 _ hj1').2 (.inr (.inl rfl)) rfl,?_⟩
      have:=(he.rows.2.1 _ hj2').2 (.inr (.inr rfl)) rfl
      simpa only [AV.valL,AV.val,d2] using this
end Go.Proofs
namespace Go.Proofs
open Go.Dw Go.RowKit Go.Maps Go.Sort

set_option maxRecDepth 100000 in
theorem Tryz.zje (E C:Nat) (e sum:Int) (u:FrameMode) (w:World) (hE:w.cell? ⟨E,0,none⟩=some (.int .i64 e)) (fE:w.frozen? ⟨E,0,none⟩=false) (hC:w.cell? ⟨C,0,none⟩=some (.int .u64 sum)):
  CallsD prog 118 #[.pointer (some ⟨E,0,none⟩),.pointer (some ⟨C,0,none⟩)] u w fun ed u' w'=>u'=u∧ed= .returned (.tuple #[])∧w'=if e=0∧4294967296≤sum then w.setCell ⟨E,0,none⟩ (.int .i64 2) else w:=by
 refine callsD_of_wp func118 rfl ?_
 simp only [ntmps118,List.size_toArray,List.length_cons,List.length_nil,Nat.reduceAdd,Nat.reduceSub,Array.replicate_succ,Array.replicate_zero,List.push_toArray,List.append_toArray,List.nil_append,List.cons_append]
 by_cases h0:e=0
 ·subst h0
  by_cases h1:4294967296≤sum
  ·rw [if_pos ⟨rfl,h1⟩]
   go_wp2
   go_end0
   exact ⟨rfl,rfl⟩
  ·rw [if_neg (fun h=>h1 h.2)]
   go_wp2
   go_end0
   exact ⟨rfl,rfl⟩
 ·rw [if_neg (fun h=>h0 h.1)]
  go_wp2
  go_end0
  exact ⟨rfl,rfl⟩
theorem Tryz.zlS {w:World} {b:Nat} {v:Value} (h:Own w b [v]):w.cell? ⟨b,0,none⟩=some v∧w.frozen? ⟨b,0,none⟩=false:=by
 obtain ⟨arr,e,h1,h2⟩:=h
 exact ⟨by simp [World.cell?,h1,h2 0 v rfl],by simp [World.frozen?,h1]⟩
theorem Tryz.znY (w:World) (cs:List Value) (t:TypeId):Own (w.alloc (.cells cs.toArray t)) w.heap.size cs:=⟨cs.toArray,t,by unfold World.alloc;exact Array.getElem?_push_size,fun i y h=>by rw [List.getElem?_toArray];exact h⟩
set_option maxRecDepth 100000 in
set_option maxHeartbeats 4000000 in
theorem Tryz.zjp {A:Nat→Prop} {w:World} {v:Value} {l:List Sg} (h:SegV A w v l):
  Calls prog 88 #[v] w fun e w'=>e= .returned (.int .i64 (zaO l))∧Below w.heap.size w w':=by
 obtain ⟨sa,c,rfl,hok,hr⟩:=h
 unfold zaO
 by_cases hlen:64<l.length
 ·rw [if_pos hlen]
  have hb0:=(Below.refl w.heap.size w).alloc (Nat.le_refl _) (.cells #[.int .i64 3] 38)
  go_enter_defers func88,ntmps88
  go_wp2
  have hE:(w.alloc (.cells #[.int .i64 3] 38)).cell? ⟨w.heap.size,0,none⟩=some (.int .i64 3):=by simp
  simp only [bodyPostD,Leaves]
  refine ⟨.int .i64 3,?_,rfl,hb0⟩
  simp [results,results88,go_sem,hE]
 ·rw [if_neg hlen]
  go_enter_defers func88,ntmps88
  go_wp2
  have o1:=znY w [.int .i64 0] 38
  have o2:=znY (w.alloc (.cells #[.int .i64 0] 38)) [.int .u64 0] 30
  have hs1:(w.alloc (.cells #[.int .i64 0] 38)).heap.size=w.heap.size+1:=World.size_alloc _ _
  rw [hs1] at o2
  have o1':Own ((w.alloc (.cells #[.int .i64 0] 38)).alloc (.cells #[.int .u64 0] 30)) w.heap.size [.int .i64 0]:=o1.kept (Below.heap_alloc _ _ _ (by rw [hs1];omega))
  have hbb:=((Below.refl w.heap.size w).alloc (Nat.le_refl _) (.cells #[.int .i64 0] 38)).alloc (by rw [hs1];omega) (.cells #[.int .u64 0] 30)
  have hsz:((w.alloc (.cells #[.int .i64 0] 38)).alloc (.cells #[.int .u64 0] 30)).heap.size=w.heap.size+2:=by rw [World.size_alloc,hs1]
  have hr':l= []∨ ∃R o,sa=some ⟨R,o,none⟩∧R≠w.heap.size∧R≠w.heap.size+1∧((w.alloc (.cells #[.int .i64 0] 38)).alloc (.cells #[.int .u64 0] 30)).rangeAt R o (zaA l):=by
   rcases hr with h0|⟨R,o,e,_,hr⟩
   ·exact .inl h0
   ·by_cases h0:l= []
    ·exact .inl h0
    ·have hR:=zcZ hr h0
     exact .inr ⟨R,o,e,by omega,by omega,zat hr (hbb.block R hR)⟩
  generalize (w.alloc (.cells #[.int .i64 0] 38)).alloc (.cells #[.int .u64 0] 30)=W at*
  refine zbu (c':= .loop (codeR prog [0,0,1,0,1,1,1,1,88])) (by kernel_rfl) ?_
  refine zbd (fun k a w'=>CkI l sa c w.heap.size (w.heap.size+1) W k a w') (fun k=>l.length-k) (fun k a w' hI=>wp_mono (zqn hI (by omega) hok (by omega) (by omega) (by omega) hr') fun ex a' w2 hh=> ?_) 0 _ _ ?_
  ·have leave: ∀ {e s:Int} {a':Act} {w2:World},CkO w.heap.size (w.heap.size+1) W e s a' w2→zaR false 0 l=(if e=0∧4294967296≤s then 2 else e)→
     bodyPostD prog f88 (fun e w'=>e=Ending.returned (Value.int IntKind.i64 (zaR false 0 l))∧RowKit.Below w.heap.size w w') .ret a' w2:=fun {e s a' w2} ho hV=>by
    obtain ⟨d,hd,args,cap,e1,e2,e3⟩:=ho.dfr
    have hm2:RowKit.Below w.heap.size w w2:=⟨ho.mv.os.trans hbb.os,ho.mv.tape.trans hbb.tape,ho.mv.output.trans hbb.output,Nat.le_trans hbb.size ho.mv.size,fun k hk=>(ho.mv.block k (by omega) (by omega)).trans (hbb.block k hk)⟩
    obtain ⟨cE,fE⟩:=zlS ho.oE
    obtain ⟨cC,fC⟩:=zlS ho.oC
    simp only [bodyPostD,hd,Leaves]
    have e3:args++cap= #[.pointer (some ⟨w.heap.size,0,none⟩),.pointer (some ⟨w.heap.size+1,0,none⟩)]:=by rw [←Array.toList_inj];exact e3
    refine ⟨by simp,.func 118,cap,118,#[.pointer (some ⟨w.heap.size,0,none⟩),.pointer (some ⟨w.heap.size+1,0,none⟩)],e1,by rw [e1,e2,←e3];simp [go_sem],?_⟩
    refine (zje w.heap.size (w.heap.size+1) e s .returning w2 cE fE cC).mono ?_
    rintro ed u' w9 ⟨rfl,rfl,rfl⟩
    simp only [Leaves,settle]
    have hp:a'.tmps.getD 2 undef= .pointer (some ⟨w.heap.size,0,none⟩):=ho.s2
    by_cases h0:e=0∧4294967296≤s
    ·rw [if_pos h0] at hV ⊢
     have dE2:(w2.setCell ⟨w.heap.size,0,none⟩ (.int .i64 2)).cell? ⟨w.heap.size,0,none⟩=some (.int .i64 2):=World.cell?_setCell_same' _ _ _ (by rw [cE];rfl)
     refine ⟨.int .i64 2,?_,by rw [hV],hm2.setCell (p:=⟨w.heap.size,0,none⟩) (Nat.le_refl _) _⟩
     have hp':a'.tmps[2]?.getD undef= .pointer (some ⟨w.heap.size,0,none⟩):=by simpa using hp
     simp [results,results88,go_sem,hp',dE2]
    ·rw [if_neg h0] at hV ⊢
     refine ⟨.int .i64 e,?_,by rw [hV],hm2⟩
     have hp':a'.tmps[2]?.getD undef= .pointer (some ⟨w.heap.size,0,none⟩):=by simpa using hp
     simp [results,results88,go_sem,hp',cE]
   cases ex with
   | normal=>exact ⟨k+1,by omega,hh.2⟩
   | ret=>
    rcases hh with ⟨_,hV,s,ho⟩|⟨h,_⟩
    ·exact leave ho (by rw [hV];simp)
    ·cases h
   | exit i=>
    rcases hh with ⟨h,_⟩|⟨h,s,hq0,hq1,hV,ho⟩
    ·cases h
    ·cases h
     simp only [Exit.inBlock,Exit.then,if_pos]
     rename_i K hK
     refine hK _ _ (zbu (c':=codeR prog [1,1,1,1,1,88]) (by kernel_rfl) ?_)
     have hj1:jOf [(w.heap.size,0),(w.heap.size+1,0)] 1=some ⟨w.heap.size,0,0,none⟩:=rfl
     have hj2:jOf [(w.heap.size,0),(w.heap.size+1,0)] 2=some ⟨w.heap.size+1,0,0,none⟩:=rfl
     have d2:(u64v 2).den (zbw 0 0 s ⟨0,0,false⟩ ⟨0,0,false⟩ undef)=s:=zav hq0 hq1
     refine wp_mono (zam (ρ:=zbw 0 0 s ⟨0,0,false⟩ ⟨0,0,false⟩ undef) (K:=fun b=>b=w.heap.size∨b=w.heap.size+1) (g:=Gho.none) (bl:= [(w.heap.size,0),(w.heap.size+1,0)]) mixed ckt_run ckt_ok (fun b hb=>by rcases hb with rfl|rfl;exact zdK ho.oE;exact zdK ho.oC)
      ⟨zaV ho.oE (zaa (zab rfl) RL.nil) (.inl rfl),zaV ho.oC (zaa (zab d2) RL.nil) (.inr rfl),trivial⟩
      ⟨fun _ i b' s' h1 h2 h3=>(by match i,h1,h2 with|0,h1,_=>cases h1;show w.heap.size≠w.heap.size+1;omega|i+1,h1,_=>cases h1),fun _ i b' s' h1 h2 h3=>(by cases h1),trivial⟩
      zas trivial trivial trivial ho.size (ck_dfr' hj1 hj2 ho.dfr) ?_ (told_nil.2 trivial)) fun ex a3 w3 hh=> ?_
     ·intro t ht
      simp only [ckt_slots,List.mem_cons,List.not_mem_nil,or_false] at ht
      subst ht
      rw [ho.s2];exact zaK hj1
     ·obtain ⟨q,hq,hto,lf,hlf,rfl,hsz3,j,hdf,he⟩:=hh
      have hj1':=he.sub _ _ hj1
      have hj2':=he.sub _ _ hj2
      unfold ckt_ps at hq
      simp only [List.mem_cons,List.not_mem_nil,or_false] at hq
      subst hq
      cases hlf
      have oC:=(he.rows.2.1 _ hj2').2 (.inr (.inr rfl)) rfl
      simp only [AV.valL,AV.val,d2] at oC
      refine leave (e:=0) ⟨hsz3,by have:=zal he.ret;simpa [AV.valL,AV.val,zad hj1'] using this,zf1 hdf hj1' hj2',ho.mv.trans he.mv,(he.rows.1 _ hj1').2 (.inr (.inl rfl)) rfl,oC⟩ (by rw [hV];simp)
   | _=>rcases hh with ⟨h,_⟩|⟨h,_⟩<;>cases h
  ·exact ⟨Nat.zero_le _,rfl,rfl,rfl,rfl,rfl,rfl,rfl,⟨_,rfl,_,_,rfl,rfl,rfl⟩,Dw.Mv.refl _ _,false,0,o1',o2,Int.le_refl _,by simp,rfl,fun _=>rfl,fun i hi=>by omega⟩
end Go.Proofs
namespace Go.Proofs
open Go.Dw Go.RowKit
def Tryz.sl1 (l:List (SE×Nat)):AV:= .sx 1 (lnv 0) 3 l
def Tryz.ckE:Ent:=⟨88,[sl1 []],0,0,0,.int .i64 (.var 7),0⟩
def Tryz.rd0E:Ent:=⟨71,[.cst 0 none,.int .u64 (.lit 0),.int .i64 (.lit 0)],0,0,0,.tup [.nils,.int .i64 (.lit 0)],0⟩
def Tryz.hasE:Ent:=⟨167,[.cst 0 none,.int .u64 (u64v 3),.int .u64 (u32v 4)],0,0,0,.bool (.var 2),0⟩
def Tryz.sinLoop:LEnt:=⟨[0,1,0,1,1,1,163],38,0,[(0,.cst 0 none),(23,sl1 []),(24,.int .i64 (lnv 0)),(25,.int .i64 (.lit 0))],[],[],0,0,[⟨.var 2,.exit 0,[],0⟩,⟨.lit true,.ret,[(4,.int .i64 (.lit 5))],0⟩]⟩
def Tryz.stoLoop:LEnt:=⟨[0,1,0,1,1,60],30,0,[(2,.int .u64 (.lit 0)),(3,.int .u64 (.lit 0)),(9,sl1 []),(10,.int .i64 (lnv 0)),(11,.int .i64 (.lit 0))],[],[],0,0,[⟨.lit true,.exit 0,[(2,.int .u64 (u64v 5)),(3,.int .u64 (u64v 6))],0⟩]⟩
end Go.Proofs
namespace Go.Proofs
open Go.Dw

def Tryz.sin_ents:List Ent:= [ckE,rd0E]
def Tryz.sin_shs:List Sh:= []
def Tryz.sin_args:List AV:= [.cst 0 none,sl1 []]
def Tryz.sin_lents:List LEnt:= [sinLoop]
def Tryz.sin_aents:List AEnt:= []
def Tryz.sin_asm:List (SB×Bool):= []
def Tryz.sin_ls:List Leaf:= [
 ⟨.int .i64 (.var 7),[],[],0,[]⟩,
 ⟨.int .i64 (.lit 0),[],[],0,[]⟩,
 ⟨.int .i64 (.lit 5),[],[],0,[]⟩]
def Tryz.sin_ps:List (List (SB×Bool)×Nat):= [
 ([((.cmp .neq (.var 7) (.lit 0)),true)],0),
 ([((.cmp .neq (.var 7) (.lit 0)),false),(.var 2,true)],1),
 ([((.cmp .neq (.var 7) (.lit 0)),false),(.var 2,false)],2)]
theorem Tryz.sin_run:(evL prog (entOrc sin_ents) (zao sin_lents) (aentOrc sin_aents) 100000 (.call 163 sin_args (zaj 0 sin_shs) (leafAt sin_ls 0))).ways sin_asm=some sin_ps:=by kernel_rfl
theorem Tryz.sin_ok:(shsSmall sin_shs&&entsSmall sin_ents&&lentsSmall sin_lents&&aentsSmall sin_aents&&AV.smallL sin_args&&leavesExact sin_ls)=true:=by kernel_rfl

def Tryz.sinb_ents:List Ent:= [hasE]
def Tryz.sinb_shs:List Sh:= [ckEl 3 4 0]
def Tryz.sinb_slots:List (Nat×AV):= [(0,.cst 0 none),(23,sl1 [(lnv 1,1)]),(24,.int .i64 (lnv 0)),(25,.int .i64 (lnv 1))]
def Tryz.sinb_lents:List LEnt:= []
def Tryz.sinb_aents:List AEnt:= []
def Tryz.sinb_dfr:Option AV:=none
def Tryz.sinb_asm:List (SB×Bool):= [(.cmp .lss (lnv 1) (lnv 0),true)]
def Tryz.sinb_ls:List CLeaf:= [
 ⟨.ret,[4],none,⟨.tup [.int .i64 (.lit 5)],[],[],0,[]⟩⟩,
 ⟨.normal,[0,23,24,25],none,⟨.tup [.cst 0 none,.sx 1 ((lnv 0)) 3 [((lnv 1),1)],.int .i64 (lnv 0),.int .i64 (.bin .add .i64 (lnv 1) (.lit 1))],[],[],0,[]⟩⟩]
def Tryz.sinb_ps:List (List (SB×Bool)×Nat):= [
 ([(.var 2,false)],0),
 ([(.var 2,true)],1)]
theorem Tryz.sinb_run:(evL prog (entOrc sinb_ents) (zao sinb_lents) (aentOrc sinb_aents) 100000 (.code (codeR prog [0,0,1,0,1,1,1,163]) [0,0,1,0,1,1,1,163] 38 (envS 38 sinb_slots sinb_dfr) (zaj 0 sinb_shs) (cleafAt sinb_ls 0))).ways sinb_asm=some sinb_ps:=by kernel_rfl
theorem Tryz.sinb_ok:(shsSmall sinb_shs&&entsSmall sinb_ents&&lentsSmall sinb_lents&&aentsSmall sinb_aents&&slotsSmall sinb_slots&&cleavesExact sinb_ls&&zaq 38 sinb_slots&&Nat.ble 38 dslot&&dfrSmall sinb_dfr)=true:=by kernel_rfl

def Tryz.sinbe_ents:List Ent:= []
def Tryz.sinbe_shs:List Sh:= []
def Tryz.sinbe_slots:List (Nat×AV):= [(0,.cst 0 none),(23,sl1 []),(24,.int .i64 (lnv 0)),(25,.int .i64 (lnv 1))]
def Tryz.sinbe_lents:List LEnt:= []
def Tryz.sinbe_aents:List AEnt:= []
def Tryz.sinbe_dfr:Option AV:=none
def Tryz.sinbe_asm:List (SB×Bool):= [(.cmp .lss (lnv 1) (lnv 0),false)]
def Tryz.sinbe_ls:List CLeaf:= [
 ⟨(.exit 0),[],none,⟨.tup [],[],[],0,[]⟩⟩]
def Tryz.sinbe_ps:List (List (SB×Bool)×Nat):= [
 ([], 0)]
theorem Tryz.sinbe_run:(evL prog (entOrc sinbe_ents) (zao sinbe_lents) (aentOrc sinbe_aents) 100000 (.code (codeR prog [0,0,1,0,1,1,1,163]) [0,0,1,0,1,1,1,163] 38 (envS 38 sinbe_slots sinbe_dfr) (zaj 0 sinbe_shs) (cleafAt sinbe_ls 0))).ways sinbe_asm=some sinbe_ps:=by kernel_rfl
theorem Tryz.sinbe_ok:(shsSmall sinbe_shs&&entsSmall sinbe_ents&&lentsSmall sinbe_lents&&aentsSmall sinbe_aents&&slotsSmall sinbe_slots&&cleavesExact sinbe_ls&&zaq 38 sinbe_slots&&Nat.ble 38 dslot&&dfrSmall sinbe_dfr)=true:=by kernel_rfl

def Tryz.sto_ents:List Ent:= [ckE]
def Tryz.sto_shs:List Sh:= []
def Tryz.sto_args:List AV:= [sl1 []]
def Tryz.sto_lents:List LEnt:= [stoLoop]
def Tryz.sto_aents:List AEnt:= []
def Tryz.sto_asm:List (SB×Bool):= []
def Tryz.sto_ls:List Leaf:= [
 ⟨.tup [.int .u64 (.lit 0),.int .u64 (.lit 0)],[],[],0,[]⟩,
 ⟨.tup [.int .u64 (u64v 5),.int .u64 (u64v 6)],[],[],0,[]⟩]
def Tryz.sto_ps:List (List (SB×Bool)×Nat):= [
 ([((.cmp .neq (.var 7) (.lit 0)),true)],0),
 ([((.cmp .neq (.var 7) (.lit 0)),false)],1)]
theorem Tryz.sto_run:(evL prog (entOrc sto_ents) (zao sto_lents) (aentOrc sto_aents) 100000 (.call 60 sto_args (zaj 0 sto_shs) (leafAt sto_ls 0))).ways sto_asm=some sto_ps:=by kernel_rfl
theorem Tryz.sto_ok:(shsSmall sto_shs&&entsSmall sto_ents&&lentsSmall sto_lents&&aentsSmall sto_aents&&AV.smallL sto_args&&leavesExact sto_ls)=true:=by kernel_rfl

def Tryz.stob_ents:List Ent:= []
def Tryz.stob_shs:List Sh:= [ckEl 3 4 0]
def Tryz.stob_slots:List (Nat×AV):= [(2,.int .u64 (u64v 5)),(3,.int .u64 (u64v 6)),(9,sl1 [(lnv 1,1)]),(10,.int .i64 (lnv 0)),(11,.int .i64 (lnv 1))]
def Tryz.stob_lents:List LEnt:= []
def Tryz.stob_aents:List AEnt:= []
def Tryz.stob_dfr:Option AV:=none
def Tryz.stob_asm:List (SB×Bool):= [(.cmp .lss (lnv 1) (lnv 0),true)]
def Tryz.stob_ls:List CLeaf:= [
 ⟨.normal,[2,3,9,10,11],none,⟨.tup [.int .u64 (u64v 5),.int .u64 (.bin .add .u64 (u64v 6) (u32v 4)),.sx 1 ((lnv 0)) 3 [((lnv 1),1)],.int .i64 (lnv 0),.int .i64 (.bin .add .i64 (lnv 1) (.lit 1))],[],[],0,[]⟩⟩,
 ⟨.normal,[2,3,9,10,11],none,⟨.tup [.int .u64 (.bin .add .u64 (u64v 5) (u32v 4)),.int .u64 (u64v 6),.sx 1 ((lnv 0)) 3 [((lnv 1),1)],.int .i64 (lnv 0),.int .i64 (.bin .add .i64 (lnv 1) (.lit 1))],[],[],0,[]⟩⟩]
def Tryz.stob_ps:List (List (SB×Bool)×Nat):= [
 ([(.var 0,true)],0),
 ([(.var 0,false)],1)]
theorem Tryz.stob_run:(evL prog (entOrc stob_ents) (zao stob_lents) (aentOrc stob_aents) 100000 (.code (codeR prog [0,0,1,0,1,1,60]) [0,0,1,0,1,1,60] 30 (envS 30 stob_slots stob_dfr) (zaj 0 stob_shs) (cleafAt stob_ls 0))).ways stob_asm=some stob_ps:=by kernel_rfl
theorem Tryz.stob_ok:(shsSmall stob_shs&&entsSmall stob_ents&&lentsSmall stob_lents&&aentsSmall stob_aents&&slotsSmall stob_slots&&cleavesExact stob_ls&&zaq 30 stob_slots&&Nat.ble 30 dslot&&dfrSmall stob_dfr)=true:=by kernel_rfl

def Tryz.stobe_ents:List Ent:= []
def Tryz.stobe_shs:List Sh:= []
def Tryz.stobe_slots:List (Nat×AV):= [(2,.int .u64 (u64v 5)),(3,.int .u64 (u64v 6)),(9,sl1 []),(10,.int .i64 (lnv 0)),(11,.int .i64 (lnv 1))]
def Tryz.stobe_lents:List LEnt:= []
def Tryz.stobe_aents:List AEnt:= []
def Tryz.stobe_dfr:Option AV:=none
def Tryz.stobe_asm:List (SB×Bool):= [(.cmp .lss (lnv 1) (lnv 0),false)]
def Tryz.stobe_ls:List CLeaf:= [
 ⟨(.exit 0),[2,3],none,⟨.tup [.int .u64 (u64v 5),.int .u64 (u64v 6)],[],[],0,[]⟩⟩]
def Tryz.stobe_ps:List (List (SB×Bool)×Nat):= [
 ([], 0)]
theorem Tryz.stobe_run:(evL prog (entOrc stobe_ents) (zao stobe_lents) (aentOrc stobe_aents) 100000 (.code (codeR prog [0,0,1,0,1,1,60]) [0,0,1,0,1,1,60] 30 (envS 30 stobe_slots stobe_dfr) (zaj 0 stobe_shs) (cleafAt stobe_ls 0))).ways stobe_asm=some stobe_ps:=by kernel_rfl
theorem Tryz.stobe_ok:(shsSmall stobe_shs&&entsSmall stobe_ents&&lentsSmall stobe_lents&&aentsSmall stobe_aents&&slotsSmall stobe_slots&&cleavesExact stobe_ls&&zaq 30 stobe_slots&&Nat.ble 30 dslot&&dfrSmall stobe_dfr)=true:=by kernel_rfl

def Tryz.stoE_ents:List Ent:= [ckE]
def Tryz.stoE_shs:List Sh:= []
def Tryz.stoE_args:List AV:= [sl1 []]
def Tryz.stoE_asm:List (SB×Bool):= [(.cmp .neq (.var 7) (.lit 0),true)]
def Tryz.stoE_ls:List Leaf:= [
 ⟨.tup [.int .u64 (.lit 0),.int .u64 (.lit 0)],[],[],0,[]⟩]
def Tryz.stoE_ps:List (List (SB×Bool)×Nat):= [
 ([], 0)]
theorem Tryz.stoE_run:(ev prog (entOrc stoE_ents) 100000 (.call 60 stoE_args (zaj 0 stoE_shs) (leafAt stoE_ls 0))).ways stoE_asm=some stoE_ps:=by kernel_rfl
theorem Tryz.stoE_ok:(shsSmall stoE_shs&&entsSmall stoE_ents&&AV.smallL stoE_args&&leavesExact stoE_ls)=true:=by kernel_rfl

def Tryz.sinE_ents:List Ent:= [ckE,rd0E]
def Tryz.sinE_shs:List Sh:= []
def Tryz.sinE_args:List AV:= [.cst 0 none,sl1 []]
def Tryz.sinE_asm:List (SB×Bool):= [(.cmp .neq (.var 7) (.lit 0),true)]
def Tryz.sinE_ls:List Leaf:= [
 ⟨.int .i64 (.var 7),[],[],0,[]⟩]
def Tryz.sinE_ps:List (List (SB×Bool)×Nat):= [
 ([], 0)]
theorem Tryz.sinE_run:(ev prog (entOrc sinE_ents) 100000 (.call 163 sinE_args (zaj 0 sinE_shs) (leafAt sinE_ls 0))).ways sinE_asm=some sinE_ps:=by kernel_rfl
theorem Tryz.sinE_ok:(shsSmall sinE_shs&&entsSmall sinE_ents&&AV.smallL sinE_args&&leavesExact sinE_ls)=true:=by kernel_rfl
end Go.Proofs
end
