/- Data of the laws as the model holds them: cells in order;and how data are read as them. Printed by gendata.py. -/
import Derived.Test.YtfohpcndcpadgaaGreatDoorLi
import Derived.Test.YtfohpcndcpadgaaGreatDoorProg
set_option linter.unusedSimpArgs false
set_option linter.unusedVariables false
set_option linter.defProp false
open Array renaming toList_inj->Cw
open Bool renaming eq_iff_iff->A9
open List renaming length_map->Ap,mem_cons->AY,mem_map->AN,mem_of_getElem?->AB,sizeOf_lt_of_mem->DM
open Nat renaming le_refl->AS,le_trans->AJ,lt_of_lt_of_le->BV
open Go.Proofs.Tryz renaming prog->AA
namespace Go.AI
open Go.Proofs
def L1{a:AV}(h:Rd AA 3 a): ∃n,a = .int .i64 n/\(IntKind.i64.min<=n/\n<=IntKind.i64.max):=OL kr h
def oM{a:AV}(h:Rd AA 9 a): ∃s,a = .str s/\s.size<=reachBytes:=ABc kr h
def IT{P:Program}{t0 t1:TypeId}{j:List AV}(h:Gx P [t0,t1] j): ∃g i,j=[g,i]/\Rd P t0 g/\Rd P t1 i:=by
 match j,h with
 |[g,i],h=>exact⟨g,i,rfl,h.1,h.2.1⟩
def H_{P:Program}{t0 t1 t2:TypeId}{o:List AV}(h:Gx P [t0,t1,t2] o): ∃g i j,o=[g,i,j]/\Rd P t0 g/\Rd P t1 i/\Rd P t2 j:=by
 match o,h with
 |[g,i,j],h=>exact⟨g,i,j,rfl,h.1,h.2.1,h.2.2.1⟩
def MX{P:Program}{t0 t1 t2 t3:TypeId}{p:List AV}(h:Gx P [t0,t1,t2,t3] p): ∃g i j o,p=[g,i,j,o]/\Rd P t0 g/\Rd P t1 i/\Rd P t2 j/\Rd P t3 o:=by
 match p,h with
 |[g,i,j,o],h=>exact⟨g,i,j,o,rfl,h.1,h.2.1,h.2.2.1,h.2.2.2.1⟩
def O8{P:Program}{t0 t1 t2 t3 t4:TypeId}{r:List AV}(h:Gx P [t0,t1,t2,t3,t4] r): ∃g i j o p,r=[g,i,j,o,p]/\Rd P t0 g/\Rd P t1 i/\Rd P t2 j/\Rd P t3 o/\Rd P t4 p:=by
 match r,h with
 |[g,i,j,o,p],h=>exact⟨g,i,j,o,p,rfl,h.1,h.2.1,h.2.2.1,h.2.2.2.1,h.2.2.2.2.1⟩
def Tc{P:Program}{t0 t1 t2 t3 t4 t5:TypeId}{t:List AV}(h:Gx P [t0,t1,t2,t3,t4,t5] t): ∃g i j o p r,t=[g,i,j,o,p,r]/\Rd P t0 g/\Rd P t1 i/\Rd P t2 j/\Rd P t3 o/\Rd P t4 p/\Rd P t5 r:=by
 match t,h with
 |[g,i,j,o,p,r],h=>exact⟨g,i,j,o,p,r,rfl,h.1,h.2.1,h.2.2.1,h.2.2.2.1,h.2.2.2.2.1,h.2.2.2.2.2.1⟩
def fI{P:Program}{t0 t1 t2 t3 t4 t5 t6 t7:TypeId}{I:List AV}(h:Gx P [t0,t1,t2,t3,t4,t5,t6,t7] I): ∃g i j o p r t C,I=[g,i,j,o,p,r,t,C]/\Rd P t0 g/\Rd P t1 i/\Rd P t2 j/\Rd P t3 o/\Rd P t4 p/\Rd P t5 r/\Rd P t6 t/\Rd P t7 C:=by
 match I,h with
 |[g,i,j,o,p,r,t,C],h=>exact⟨g,i,j,o,p,r,t,C,rfl,h.1,h.2.1,h.2.2.1,h.2.2.2.1,h.2.2.2.2.1,h.2.2.2.2.2.1,h.2.2.2.2.2.2.1,h.2.2.2.2.2.2.2.1⟩
def Zv{P:Program}{t0 t1 t2 t3 t4 t5 t6 t7 t8 t9:TypeId}{O:List AV}(h:Gx P [t0,t1,t2,t3,t4,t5,t6,t7,t8,t9] O): ∃g i j o p r t C I J,O=[g,i,j,o,p,r,t,C,I,J]/\Rd P t0 g/\Rd P t1 i/\Rd P t2 j/\Rd P t3 o/\Rd P t4 p/\Rd P t5 r/\Rd P t6 t/\Rd P t7 C/\Rd P t8 I/\Rd P t9 J:=by
 match O,h with
 |[g,i,j,o,p,r,t,C,I,J],h=>exact⟨g,i,j,o,p,r,t,C,I,J,rfl,h.1,h.2.1,h.2.2.1,h.2.2.2.1,h.2.2.2.2.1,h.2.2.2.2.2.1,h.2.2.2.2.2.2.1,h.2.2.2.2.2.2.2.1,h.2.2.2.2.2.2.2.2.1,h.2.2.2.2.2.2.2.2.2.1⟩
@[ext] structure Head where
 h0:Int
 h1:Int
 h2:Int
 h3:Int
 h4:Int
 h5:Int
 h6:Int
 h7:Int
 h8:Int
 h9:Int
 deriving DecidableEq,Inhabited
def Head.c(x:Head):List AV:=[.int .i64 x.h0,.int .i64 x.h1,.int .i64 x.h2,.int .i64 x.h3,.int .i64 x.h4,.int .i64 x.h5,.int .i64 x.h6,.int .i64 x.h7,.int .i64 x.h8,.int .i64 x.h9]
def nM(x:Head):x.c.length=10:=rfl
def nN(x:Head):x.c.map borrow1=x.c:=rfl
def nL(x:Head):x.c.any GY=false:=by
 rfl
def fu(x:Head):x.c.take 10=x.c:=rfl
def Head.cf_pure(x:Head):Fq x.c=true:=by
 simp[Head.c,Fq,AV.pure]
def nP(x:Head):Fq x.c=true:=x.cf_pure
def VZ(k:Nat)(x:Head):F_ k x.c=true:=by
 simp[Head.c,F_,AV.bnd]
def Head.c_bnd(k:Nat)(x:Head):F_ k x.c=true:=VZ k x
def nO(x:Head):x.c[0]? =some (.int .i64 x.h0):=rfl
def Vy(x:Head)(v:Int):G8 x.c [.int .i64 v]=({ x with h0:=v }:Head).c:=rfl
def Ys(x:Head)(v:Int):splice x.c 1 [.int .i64 v]=({ x with h1:=v }:Head).c:=rfl
def Yr(x:Head)(v:Int):splice x.c 9 [.int .i64 v]=({ x with h9:=v }:Head).c:=rfl
def Head.z:Head:=⟨0,0,0,0,0,0,0,0,0,0⟩
def Head.zero:F8 AA 41=some (.agg Head.z.c):=kr
def Head.ok(_:Head):Prop:=True
def Head.rd{a:AV}(h:Rd AA 41 a): ∃x:Head,a = .agg x.c/\x.ok:=by
 obtain⟨ps,rfl,g⟩:=GZ (ts:=[3,3,3,3,3,3,3,3,3,3]) kr h;obtain⟨a0,a1,a2,a3,a4,a5,a6,a7,a8,a9,rfl,i,j,o,p,r,t,C,I,J,O⟩:=Zv g;obtain⟨P,rfl,k0⟩:=L1 i;obtain⟨R,rfl,k1⟩:=L1 j;obtain⟨T,rfl,k2⟩:=L1 o;obtain⟨U,rfl,k3⟩:=L1 p;obtain⟨V,rfl,k4⟩:=L1 r;obtain⟨v5,rfl,k5⟩:=L1 t;obtain⟨v6,rfl,k6⟩:=L1 C;obtain⟨v7,rfl,k7⟩:=L1 I;obtain⟨v8,rfl,k8⟩:=L1 J;obtain⟨v9,rfl,k9⟩:=L1 O;exact⟨⟨P,R,T,U,V,v5,v6,v7,v8,v9⟩,rfl,trivial⟩
def Head.eq(x y:Head):K3 AA 41 (.agg x.c) (.agg y.c)=some (decide (x=y)):=by
 have e:K3 AA 41 (.agg x.c) (.agg y.c)=some ((x.h0==y.h0)&&((x.h1==y.h1)&&((x.h2==y.h2)&&((x.h3==y.h3)&&((x.h4==y.h4)&&((x.h5==y.h5)&&((x.h6==y.h6)&&((x.h7==y.h7)&&((x.h8==y.h8)&&((x.h9==y.h9)&&true)))))))))):=kr;rw[e,Option.some.injEq,A9];simp[Head.ext_iff]
def AGc(x y:Head){d:Tmp}{K:Kt}{e:GO}{H:Fl}:JA AA .eql 41 (.agg x.c) (.agg y.c) d K e H=K ((d,.bool (decide (x=y)))::e) H:=AA9 (Head.eq x y)
def AGb(x y:Head){d:Tmp}{K:Kt}{e:GO}{H:Fl}:JA AA .neq 41 (.agg x.c) (.agg y.c) d K e H=K ((d,.bool !(decide (x=y)))::e) H:=AA8 (Head.eq x y)
@[ext] structure Fld where
 name:ByteArray
 at_:Int
 width:Int
 deriving DecidableEq,Inhabited
def Fld.c(x:Fld):List AV:=[.str x.name,.int .i64 x.at_,.int .i64 x.width]
def AJd(x:Fld):1<=Fo x.c:=by
 have g:1<=(.str x.name:AV).bulk:=by simp[AV.bulk]
 exact AJ g (GK (AB (i:=0) rfl))
def sR(x:Fld):x.c.length=3:=rfl
def sT(x:Fld):x.c.map borrow1=x.c:=rfl
def sQ(x:Fld):x.c.any GY=false:=by
 rfl
def nQ(x:Fld):x.c.take 3=x.c:=rfl
def Fld.cf_pure(x:Fld):Fq x.c=true:=by
 simp[Fld.c,Fq,AV.pure]
def sV(x:Fld):Fq x.c=true:=x.cf_pure
def Yt(k:Nat)(x:Fld):F_ k x.c=true:=by
 simp[Fld.c,F_,AV.bnd]
def Fld.c_bnd(k:Nat)(x:Fld):F_ k x.c=true:=Yt k x
def nR{x:Fld}{B:Nat}(h:Fo x.c<=B):x.name.size<=B:=Hq (AB (i:=0) rfl) h
def sU(x:Fld):x.c[0]? =some (.str x.name)/\x.c[1]? =some (.int .i64 x.at_)/\x.c[2]? =some (.int .i64 x.width):=⟨rfl,rfl,rfl⟩
def Fld.z:Fld:=⟨.empty,0,0⟩
def Fld.zero:F8 AA 122=some (.agg Fld.z.c):=kr
def Fld.ok(_:Fld):Prop:=True
def Fld.rd{a:AV}(h:Rd AA 122 a): ∃x:Fld,a = .agg x.c/\x.ok:=by
 obtain⟨C,rfl,g⟩:=GZ (ts:=[9,3,3]) kr h;obtain⟨I,J,O,rfl,i,j,o⟩:=H_ g;obtain⟨p,rfl,P⟩:=oM i;obtain⟨r,rfl,R⟩:=L1 j;obtain⟨t,rfl,T⟩:=L1 o;exact⟨⟨p,r,t⟩,rfl,trivial⟩
@[ext] structure Port where
 name:ByteArray
 edge:Int
 deriving DecidableEq,Inhabited
def Port.c(x:Port):List AV:=[.str x.name,.int .i64 x.edge]
def AGS(x:Port):1<=Fo x.c:=by
 have g:1<=(.str x.name:AV).bulk:=by simp[AV.bulk]
 exact AJ g (GK (AB (i:=0) rfl))
def ml(x:Port):x.c.length=2:=rfl
def mo(x:Port):x.c.map borrow1=x.c:=rfl
def mj(x:Port):x.c.any GY=false:=by
 rfl
def ff(x:Port):x.c.take 2=x.c:=rfl
def Port.cf_pure(x:Port):Fq x.c=true:=by
 simp[Port.c,Fq,AV.pure]
def mr(x:Port):Fq x.c=true:=x.cf_pure
def VT(k:Nat)(x:Port):F_ k x.c=true:=by
 simp[Port.c,F_,AV.bnd]
def Port.c_bnd(k:Nat)(x:Port):F_ k x.c=true:=VT k x
def fg{x:Port}{B:Nat}(h:Fo x.c<=B):x.name.size<=B:=Hq (AB (i:=0) rfl) h
def mq(x:Port):x.c[0]? =some (.str x.name)/\x.c[1]? =some (.int .i64 x.edge):=⟨rfl,rfl⟩
def Port.z:Port:=⟨.empty,0⟩
def Port.zero:F8 AA 127=some (.agg Port.z.c):=kr
def Port.ok(_:Port):Prop:=True
def Port.rd{a:AV}(h:Rd AA 127 a): ∃x:Port,a = .agg x.c/\x.ok:=by
 obtain⟨r,rfl,g⟩:=GZ (ts:=[9,3]) kr h;obtain⟨t,C,rfl,i,j⟩:=IT g;obtain⟨o,rfl,I⟩:=oM i;obtain⟨p,rfl,J⟩:=L1 j;exact⟨⟨o,p⟩,rfl,trivial⟩
@[ext] structure Wire where
 src:Int
 dst:Int
 deriving DecidableEq,Inhabited
def Wire.c(x:Wire):List AV:=[.int .i64 x.src,.int .i64 x.dst]
def AGM(x:Wire):1<=Fo x.c:=by
 have g:1<=(.int .i64 x.src:AV).bulk:=by simp[AV.bulk]
 exact AJ g (GK (AB (i:=0) rfl))
def mT(x:Wire):x.c.length=2:=rfl
def mU(x:Wire):x.c.map borrow1=x.c:=rfl
def mS(x:Wire):x.c.any GY=false:=by
 rfl
def eM(x:Wire):x.c.take 2=x.c:=rfl
def Wire.cf_pure(x:Wire):Fq x.c=true:=by
 simp[Wire.c,Fq,AV.pure]
def mW(x:Wire):Fq x.c=true:=x.cf_pure
def VR(k:Nat)(x:Wire):F_ k x.c=true:=by
 simp[Wire.c,F_,AV.bnd]
def Wire.c_bnd(k:Nat)(x:Wire):F_ k x.c=true:=VR k x
def mV(x:Wire):x.c[0]? =some (.int .i64 x.src)/\x.c[1]? =some (.int .i64 x.dst):=⟨rfl,rfl⟩
def Wire.z:Wire:=⟨0,0⟩
def Wire.zero:F8 AA 293=some (.agg Wire.z.c):=kr
def Wire.ok(_:Wire):Prop:=True
def Wire.rd{a:AV}(h:Rd AA 293 a): ∃x:Wire,a = .agg x.c/\x.ok:=by
 obtain⟨r,rfl,g⟩:=GZ (ts:=[3,3]) kr h;obtain⟨t,C,rfl,i,j⟩:=IT g;obtain⟨o,rfl,I⟩:=L1 i;obtain⟨p,rfl,J⟩:=L1 j;exact⟨⟨o,p⟩,rfl,trivial⟩
structure Pred where
 kind:Int
 field:ByteArray
 n:Int
 m:Int
 args:List Pred
instance:Inhabited Pred:=⟨⟨default,default,default,default,default⟩⟩
mutual
def Pred.e:Pred->AV
 |⟨g,i,j,o,p⟩ => .agg [.int .i64 g,.str i,.int .i64 j,.int .i64 o,.sl none (Pred.es p)]
def Pred.es:List Pred->List AV
 |[]=>[]
 |x::l=>Pred.e x::Pred.es l
end
abbrev Gn:List Pred->List AV:=Pred.es
mutual
def me:∀x:Pred,(x.e).pure=true
 |⟨i,j,o,p,g⟩=>by simp[Pred.e,AV.pure,Fq,O9 g]
def O9:∀l:List Pred,Fq (Pred.es l)=true
 |[]=>rfl
 |x::l=>by simp[Pred.es,Fq,me x,O9 l]
end
mutual
def sH(k:Nat): ∀x:Pred,(x.e).bnd k=true
 |⟨i,j,o,p,g⟩=>by simp[Pred.e,AV.bnd,F_,QU k g]
def QU(k:Nat): ∀l:List Pred,F_ k (Pred.es l)=true
 |[]=>rfl
 |x::l=>by simp[Pred.es,F_,sH k x,QU k l]
end
def KO(l:List Pred):Fq (Gn l)=true:=O9 l
def LK(k:Nat)(l:List Pred):F_ k (Gn l)=true:=QU k l
def Jk(p:Pred->Prop)(h:∀x:Pred,(∀y∈x.args,p y)->p x): ∀x,p x :=
 λx=>Pred.rec (motive_1:=p) (motive_2:=λl => ∀y∈l,p y) (λi j o r t C=>h ⟨i,j,o,r,t⟩ C) (λy g=>by cases g) (λx l I J y g=>by
  rcases AY.1 g with rfl|g
  ·exact I
  ·exact J y g) x
def Pred.cf(x:Pred)(g:Option Nat):List AV:=[.int .i64 x.kind,.str x.field,.int .i64 x.n,.int .i64 x.m,.sl g (Gn x.args)]
abbrev Pred.c(x:Pred):List AV:=x.cf none
def AGR(x:Pred):1<=Fo x.c:=by
 have g:1<=(.int .i64 x.kind:AV).bulk:=by simp[AV.bulk]
 exact AJ g (GK (AB (i:=0) rfl))
def ABd(x:Pred):x.e = .agg x.c:=by cases x;rfl
def IP(l:List Pred):Gn l=l.map λx => .agg x.c:=by
 induction l with
 |nil=>rfl
 |cons x l g=>show x.e::Pred.es l=_;rw[show Pred.es l=_ from g,ABd];rfl
def Nv(l:List Pred):(Gn l).length=l.length:=by simp[IP]
def GF{l:List Pred}{i:Nat}{x:Pred}(h:l[i]? =some x):(Gn l)[i]? =some (.agg x.c):=by simp[IP,h]
def Nu{l:List Pred}{x:Pred}(h:x∈l): .agg x.c∈Gn l:=by rw[IP];exact AN.2 ⟨x,h,rfl⟩
def js(l:List Pred): ∀x∈Gn l,x.cells.length=5:=by
 intro x hx;rw[IP]at hx;obtain⟨y,_,rfl⟩:=AN.1 hx;rfl
def cz(l:List Pred):(∀x∈Gn l,x.cells.length=5)=True:=eq_true (js l)
def wL:Gn []=[]:=rfl
def jo(l:List Pred)(k:Nat):(Gn l).take k=Gn (l.take k):=by simp[IP]
def jq(l:List Pred)(k:Nat):(Gn l).drop k=Gn (l.drop k):=by simp[IP]
def wM(a b:List Pred):Gn a++Gn b=Gn (a++b):=by simp[IP]
def XR{l:List Pred}{B:Nat}(h:Fo (Gn l)<=B){x:Pred}(hx:x∈l):(.agg x.c:AV).bulk<=B:=AJ (GK (Nu hx)) h
def XQ{l:List Pred}{B:Nat}(h:Fo (Gn l)<=B):l.length<=B:=by
 refine AJ ?_ h;rw[IP];exact Hr (f:=λ(x:Pred) => .agg x.c) (λx=>by exact AGR x) l
def mg(x:Pred)(g:Option Nat):(x.cf g).length=5:=rfl
def mh(x:Pred)(g:Option Nat):(x.cf g).map borrow1=x.cf none:=rfl
def mf(x:Pred)(g:Option Nat):(x.cf g).any GY=(g.isSome):=by
 cases g<;>rfl
def fe(x:Pred)(g:Option Nat):(x.cf g).take 5=x.cf g:=rfl
def Pred.cf_pure(x:Pred)(g:Option Nat):Fq (x.cf g)=true:=by
 simp[Pred.cf,Fq,AV.pure,KO]
def VS(k:Nat)(x:Pred)(g:Option Nat):F_ k (x.cf g)=true:=by
 simp[Pred.cf,F_,AV.bnd,LK]
def Pred.c_bnd(k:Nat)(x:Pred):F_ k x.c=true:=VS k x none
def Lj{x:Pred}(h:HL x.c):x.args.length<=9223372036854775807:=by
 have g:(AV.sl none (Gn x.args)).fit:=F4.1 h _ (AB (i:=4) rfl);have j:=g.1
 rwa [Nv]at j
def Rg{x:Pred}{B:Nat}(h:Fo x.c<=B):x.field.size<=B:=Hq (AB (i:=1) rfl) h
def Jt{x:Pred}{B:Nat}(h:Fo x.c<=B):Fo (Gn x.args)<=B:=Gv (o:=none) (AB (i:=4) rfl) h
def mi(x:Pred)(g:Option Nat):(x.cf g)[0]? =some (.int .i64 x.kind)/\(x.cf g)[1]? =some (.str x.field)/\(x.cf g)[2]? =some (.int .i64 x.n)/\(x.cf g)[3]? =some (.int .i64 x.m)/\(x.cf g)[4]? =some (.sl g (Gn x.args)):=⟨rfl,rfl,rfl,rfl,rfl⟩
def Pred.z:Pred:=⟨0,.empty,0,0,[]⟩
def Pred.zero:F8 AA 62=some (.agg (Pred.z.cf (some 5))):=kr
def Pred.ok(_:Pred):Prop:=True
def md:∀(n:Nat) {a:AV},SizeOf.sizeOf a<=n->Rd AA 62 a -> ∃x:Pred,a = .agg x.c/\x.ok
 | 0,a,g,h=>by cases a<;>simp at g
 | n+1,a,g,h=>by
  obtain⟨ps,rfl,i⟩:=GZ (ts:=[3,9,3,3,60]) kr h;obtain⟨a0,a1,a2,a3,a4,rfl,j,p,r,t,C⟩:=O8 i;obtain⟨I,rfl,k0⟩:=L1 j;obtain⟨J,rfl,k1⟩:=oM p;obtain⟨O,rfl,k2⟩:=L1 r;obtain⟨P,rfl,k3⟩:=L1 t;obtain⟨es,rfl,R,T⟩:=QS (e:=62) kr C;obtain⟨U,rfl,V⟩:=cd (f:=λx:Pred => .agg x.c) (ok:=Pred.ok) λx hx=>md n (by
   have h1:=DM hx;have h2:=BV (cD (o:=none) (es:=es) (by simp[Hx,AV.cells])) g;omega) (T x hx)
  rw[Ap,show AA.bytesOf 62=64 by kernel_rfl]at R;refine⟨⟨I,J,O,P,U⟩, ?_,trivial⟩;rw[<- IP];rfl
def Pred.rd{a:AV}(h:Rd AA 62 a): ∃x:Pred,a = .agg x.c/\x.ok:=md _ (AS _) h
structure Policy where
 kind:Int
 pred:Pred
 field:ByteArray
 n:Int
 args:List Policy
instance:Inhabited Policy:=⟨⟨default,default,default,default,default⟩⟩
mutual
def Policy.e:Policy->AV
 |⟨i,g,j,o,p⟩ => .agg [.int .i64 i,.int .i64 g.kind,.str g.field,.int .i64 g.n,.int .i64 g.m,.sl none (Gn g.args),.str j,.int .i64 o,.sl none (Policy.es p)]
def Policy.es:List Policy->List AV
 |[]=>[]
 |x::l=>Policy.e x::Policy.es l
end
abbrev GX:List Policy->List AV:=Policy.es
mutual
def Zy:∀x:Policy,(x.e).pure=true
 |⟨i,j,o,p,g⟩=>by simp[Policy.e,AV.pure,Fq,M7 g,KO]
def M7:∀l:List Policy,Fq (Policy.es l)=true
 |[]=>rfl
 |x::l=>by simp[Policy.es,Fq,Zy x,M7 l]
end
mutual
def fh(k:Nat): ∀x:Policy,(x.e).bnd k=true
 |⟨i,j,o,p,g⟩=>by simp[Policy.e,AV.bnd,F_,Na k g,LK]
def Na(k:Nat): ∀l:List Policy,F_ k (Policy.es l)=true
 |[]=>rfl
 |x::l=>by simp[Policy.es,F_,fh k x,Na k l]
end
def Ok(l:List Policy):Fq (GX l)=true:=M7 l
def Px(k:Nat)(l:List Policy):F_ k (GX l)=true:=Na k l
def IM(p:Policy->Prop)(h:∀x:Policy,(∀y∈x.args,p y)->p x): ∀x,p x :=
 λx=>Policy.rec (motive_1:=p) (motive_2:=λl => ∀y∈l,p y) (λi j o r t C=>h ⟨i,j,o,r,t⟩ C) (λy g=>by cases g) (λx l I J y g=>by
  rcases AY.1 g with rfl|g
  ·exact I
  ·exact J y g) x
def Policy.cf(x:Policy)(g i:Option Nat):List AV:=[.int .i64 x.kind,.int .i64 x.pred.kind,.str x.pred.field,.int .i64 x.pred.n,.int .i64 x.pred.m,.sl g (Gn x.pred.args),.str x.field,.int .i64 x.n,.sl i (GX x.args)]
abbrev Policy.c(x:Policy):List AV:=x.cf none none
def sK(x:Policy):1<=Fo x.c:=by
 have g:1<=(.int .i64 x.kind:AV).bulk:=by simp[AV.bulk]
 exact AJ g (GK (AB (i:=0) rfl))
def mw(x:Policy):x.e = .agg x.c:=by cases x;rfl
def HI(l:List Policy):GX l=l.map λx => .agg x.c:=by
 induction l with
 |nil=>rfl
 |cons x l g=>show x.e::Policy.es l=_;rw[show Policy.es l=_ from g,mw];rfl
def VH(l:List Policy):(GX l).length=l.length:=by simp[HI]
def Fy{l:List Policy}{i:Nat}{x:Policy}(h:l[i]? =some x):(GX l)[i]? =some (.agg x.c):=by simp[HI,h]
def VG{l:List Policy}{x:Policy}(h:x∈l): .agg x.c∈GX l:=by rw[HI];exact AN.2 ⟨x,h,rfl⟩
def ZP(l:List Policy): ∀x∈GX l,x.cells.length=9:=by
 intro x hx;rw[HI]at hx;obtain⟨y,_,rfl⟩:=AN.1 hx;rfl
def XT(l:List Policy):(∀x∈GX l,x.cells.length=9)=True:=eq_true (ZP l)
def ju:GX []=[]:=rfl
def ZN(l:List Policy)(k:Nat):(GX l).take k=GX (l.take k):=by simp[HI]
def ZO(l:List Policy)(k:Nat):(GX l).drop k=GX (l.drop k):=by simp[HI]
def jv(a b:List Policy):GX a++GX b=GX (a++b):=by simp[HI]
def R3{l:List Policy}{B:Nat}(h:Fo (GX l)<=B){x:Policy}(hx:x∈l):(.agg x.c:AV).bulk<=B:=AJ (GK (VG hx)) h
def R2{l:List Policy}{B:Nat}(h:Fo (GX l)<=B):l.length<=B:=by
 refine AJ ?_ h;rw[HI];exact Hr (f:=λ(x:Policy) => .agg x.c) (λx=>by exact sK x) l
def Z0(x:Policy)(g i:Option Nat):(x.cf g i).length=9:=rfl
def Z1(x:Policy)(g i:Option Nat):(x.cf g i).map borrow1=x.cf none none:=rfl
def Zz(x:Policy)(g i:Option Nat):(x.cf g i).any GY=(g.isSome||i.isSome):=by
 cases g<;>cases i<;>rfl
def Yd(x:Policy)(g i:Option Nat):(x.cf g i).take 9=x.cf g i:=rfl
def Policy.cf_pure(x:Policy)(g i:Option Nat):Fq (x.cf g i)=true:=by
 simp[Policy.cf,Fq,AV.pure,Ok,KO]
def Rh(k:Nat)(x:Policy)(g i:Option Nat):F_ k (x.cf g i)=true:=by
 simp[Policy.cf,F_,AV.bnd,Px,LK]
def Policy.c_bnd(k:Nat)(x:Policy):F_ k x.c=true:=Rh k x none none
def KH{x:Policy}(h:HL x.c):x.args.length<=9223372036854775807:=by
 have g:(AV.sl none (GX x.args)).fit:=F4.1 h _ (AB (i:=8) rfl);have j:=g.1
 rwa [VH]at j
def M8{x:Policy}{B:Nat}(h:Fo x.c<=B):Fo x.pred.c<=B:=by
 have g:=Hy x.c 1 5;rw[show(x.c.drop 1).take 5=x.pred.c from rfl]at g;omega
def no{x:Policy}{B:Nat}(h:Fo x.c<=B):Fo (Gn x.pred.args)<=B:=Gv (o:=none) (AB (i:=5) rfl) h
def PH{x:Policy}{B:Nat}(h:Fo x.c<=B):x.field.size<=B:=Hq (AB (i:=6) rfl) h
def I2{x:Policy}{B:Nat}(h:Fo x.c<=B):Fo (GX x.args)<=B:=Gv (o:=none) (AB (i:=8) rfl) h
def Z2(x:Policy)(i g:Option Nat):(x.cf i g)[0]? =some (.int .i64 x.kind)/\(x.cf i g)[6]? =some (.str x.field)/\(x.cf i g)[7]? =some (.int .i64 x.n)/\(x.cf i g)[8]? =some (.sl g (GX x.args)):=⟨rfl,rfl,rfl,rfl⟩
def RG(x:Policy)(g i:Option Nat):((x.cf g i).drop 1).take 5=x.pred.cf g:=rfl
def Policy.z:Policy:=⟨0,⟨0,.empty,0,0,[]⟩,.empty,0,[]⟩
def Policy.zero:F8 AA 130=some (.agg (Policy.z.cf (some 5) (some 9))):=kr
def Policy.ok(_:Policy):Prop:=True
def Yc:∀(n:Nat) {a:AV},SizeOf.sizeOf a<=n->Rd AA 130 a -> ∃x:Policy,a = .agg x.c/\x.ok
 | 0,a,g,h=>by cases a<;>simp at g
 | n+1,a,g,h=>by
  obtain⟨ps,rfl,i⟩:=GZ (ts:=[3,62,9,3,128]) kr h;obtain⟨a0,a1,a2,a3,a4,rfl,j,p,r,t,C⟩:=O8 i;obtain⟨I,rfl,k0⟩:=L1 j;obtain⟨J,rfl,k1⟩:=Pred.rd p;obtain⟨O,rfl,k2⟩:=oM r;obtain⟨P,rfl,k3⟩:=L1 t;obtain⟨es,rfl,R,T⟩:=QS (e:=130) kr C;obtain⟨U,rfl,V⟩:=cd (f:=λx:Policy => .agg x.c) (ok:=Policy.ok) λx hx=>Yc n (by
   have h1:=DM hx;have h2:=BV (cD (o:=none) (es:=es) (by simp[Hx,AV.cells])) g;omega) (T x hx)
  rw[Ap,show AA.bytesOf 130=120 by kernel_rfl]at R;refine⟨⟨I,J,O,P,U⟩, ?_,trivial⟩;rw[<- HI];rfl
def Policy.rd{a:AV}(h:Rd AA 130 a): ∃x:Policy,a = .agg x.c/\x.ok:=Yc _ (AS _) h
structure Regex where
 kind:Int
 node:ByteArray
 args:List Regex
instance:Inhabited Regex:=⟨⟨default,default,default⟩⟩
mutual
def Regex.e:Regex->AV
 |⟨g,i,j⟩ => .agg [.int .i64 g,.str i,.sl none (Regex.es j)]
def Regex.es:List Regex->List AV
 |[]=>[]
 |x::l=>Regex.e x::Regex.es l
end
abbrev Kp:List Regex->List AV:=Regex.es
mutual
def fC:∀x:Regex,(x.e).pure=true
 |⟨i,j,g⟩=>by simp[Regex.e,AV.pure,Fq,NZ g]
def NZ:∀l:List Regex,Fq (Regex.es l)=true
 |[]=>rfl
 |x::l=>by simp[Regex.es,Fq,fC x,NZ l]
end
mutual
def ma(k:Nat): ∀x:Regex,(x.e).bnd k=true
 |⟨i,j,g⟩=>by simp[Regex.e,AV.bnd,F_,O7 k g]
def O7(k:Nat): ∀l:List Regex,F_ k (Regex.es l)=true
 |[]=>rfl
 |x::l=>by simp[Regex.es,F_,ma k x,O7 k l]
end
def Pw(l:List Regex):Fq (Kp l)=true:=NZ l
def R1(k:Nat)(l:List Regex):F_ k (Kp l)=true:=O7 k l
def Us(p:Regex->Prop)(h:∀x:Regex,(∀y∈x.args,p y)->p x): ∀x,p x :=
 λx=>Regex.rec (motive_1:=p) (motive_2:=λl => ∀y∈l,p y) (λi j o r=>h ⟨i,j,o⟩ r) (λy g=>by cases g) (λx l t C y g=>by
  rcases AY.1 g with rfl|g
  ·exact t
  ·exact C y g) x
def Regex.cf(x:Regex)(g:Option Nat):List AV:=[.int .i64 x.kind,.str x.node,.sl g (Kp x.args)]
abbrev Regex.c(x:Regex):List AV:=x.cf none
def ABb(x:Regex):1<=Fo x.c:=by
 have g:1<=(.int .i64 x.kind:AV).bulk:=by simp[AV.bulk]
 exact AJ g (GK (AB (i:=0) rfl))
def sF(x:Regex):x.e = .agg x.c:=by cases x;rfl
def Nt(l:List Regex):Kp l=l.map λx => .agg x.c:=by
 induction l with
 |nil=>rfl
 |cons x l g=>show x.e::Regex.es l=_;rw[show Regex.es l=_ from g,sF];rfl
def XP(l:List Regex):(Kp l).length=l.length:=by simp[Nt]
def I7{l:List Regex}{i:Nat}{x:Regex}(h:l[i]? =some x):(Kp l)[i]? =some (.agg x.c):=by simp[Nt,h]
def XO{l:List Regex}{x:Regex}(h:x∈l): .agg x.c∈Kp l:=by rw[Nt];exact AN.2 ⟨x,h,rfl⟩
def wK{l:List Regex}{B:Nat}(h:Fo (Kp l)<=B){x:Regex}(hx:x∈l):(.agg x.c:AV).bulk<=B:=AJ (GK (XO hx)) h
def wJ{l:List Regex}{B:Nat}(h:Fo (Kp l)<=B):l.length<=B:=by
 refine AJ ?_ h;rw[Nt];exact Hr (f:=λ(x:Regex) => .agg x.c) (λx=>by exact ABb x) l
def fE(x:Regex)(g:Option Nat):(x.cf g).length=3:=rfl
def fF(x:Regex)(g:Option Nat):(x.cf g).map borrow1=x.cf none:=rfl
def fD(x:Regex)(g:Option Nat):(x.cf g).any GY=(g.isSome):=by
 cases g<;>rfl
def Zt(x:Regex)(g:Option Nat):(x.cf g).take 3=x.cf g:=rfl
def Regex.cf_pure(x:Regex)(g:Option Nat):Fq (x.cf g)=true:=by
 simp[Regex.cf,Fq,AV.pure,Pw]
def Tb(k:Nat)(x:Regex)(g:Option Nat):F_ k (x.cf g)=true:=by
 simp[Regex.cf,F_,AV.bnd,R1]
def Regex.c_bnd(k:Nat)(x:Regex):F_ k x.c=true:=Tb k x none
def QR{x:Regex}(h:HL x.c):x.args.length<=9223372036854775807:=by
 have g:(AV.sl none (Kp x.args)).fit:=F4.1 h _ (AB (i:=2) rfl);have j:=g.1
 rwa [XP]at j
def Zu{x:Regex}{B:Nat}(h:Fo x.c<=B):x.node.size<=B:=Hq (AB (i:=1) rfl) h
def Rf{x:Regex}{B:Nat}(h:Fo x.c<=B):Fo (Kp x.args)<=B:=Gv (o:=none) (AB (i:=2) rfl) h
def fH(x:Regex)(g:Option Nat):(x.cf g)[0]? =some (.int .i64 x.kind)/\(x.cf g)[1]? =some (.str x.node)/\(x.cf g)[2]? =some (.sl g (Kp x.args)):=⟨rfl,rfl,rfl⟩
def Regex.z:Regex:=⟨0,.empty,[]⟩
def Regex.zero:F8 AA 258=some (.agg (Regex.z.cf (some 3))):=kr
def Regex.ok(_:Regex):Prop:=True
def bo:∀(n:Nat) {a:AV},SizeOf.sizeOf a<=n->Rd AA 258 a -> ∃x:Regex,a = .agg x.c/\x.ok
 | 0,a,g,h=>by cases a<;>simp at g
 | n+1,a,g,h=>by
  obtain⟨R,rfl,i⟩:=GZ (ts:=[3,9,256]) kr h;obtain⟨T,U,V,rfl,j,p,r⟩:=H_ i;obtain⟨t,rfl,k0⟩:=L1 j;obtain⟨C,rfl,k1⟩:=oM p;obtain⟨es,rfl,I,J⟩:=QS (e:=258) kr r;obtain⟨O,rfl,P⟩:=cd (f:=λx:Regex => .agg x.c) (ok:=Regex.ok) λx hx=>bo n (by
   have h1:=DM hx;have h2:=BV (cD (o:=none) (es:=es) (by simp[Hx,AV.cells])) g;omega) (J x hx)
  rw[Ap,show AA.bytesOf 258=48 by kernel_rfl]at I;refine⟨⟨t,C,O⟩, ?_,trivial⟩;rw[<- Nt];rfl
def Regex.rd{a:AV}(h:Rd AA 258 a): ∃x:Regex,a = .agg x.c/\x.ok:=bo _ (AS _) h
def Ha(l:List ByteArray):List AV:=l.map λx => .str x
def Ko(l:List ByteArray):(Ha l).length=l.length:=by simp[Ha]
def GN{l:List ByteArray}{i:Nat}{x:ByteArray}(h:l[i]? =some x):(Ha l)[i]? =some (.str x):=by simp[Ha,h]
def AD1{l:List ByteArray}{x:ByteArray}(h:x∈l): .str x∈Ha l:=by rw[Ha];exact AN.2 ⟨x,h,rfl⟩
def pd(l:List ByteArray): ∀x∈Ha l,x.cells.length=1:=by
 intro x hx;obtain⟨y,_,rfl⟩:=AN.1 hx;rfl
def jl(l:List ByteArray):(∀x∈Ha l,x.cells.length=1)=True:=eq_true (pd l)
def AD0:Ha []=[]:=rfl
def pY(l:List ByteArray)(k:Nat):(Ha l).take k=Ha (l.take k):=by simp[Ha]
def wE(a:List ByteArray)(x:ByteArray):Ha a++[.str x]=Ha (a++[x]):=by simp[Ha]
def Qm(l:List ByteArray):Fq (Ha l)=true:=by
 induction l with
 |nil=>rfl
 |cons x i g=>simpa [Ha,Fq,AV.pure]using g
def Sx(k:Nat)(l:List ByteArray):F_ k (Ha l)=true:=Hv λx=>rfl
def AH4{l:List ByteArray}{B:Nat}(h:Fo (Ha l)<=B){x:ByteArray}(hx:x∈l):(.str x:AV).bulk<=B:=AJ (GK (AD1 hx)) h
def WJ{l:List ByteArray}{B:Nat}(h:Fo (Ha l)<=B):l.length<=B:=by
 refine AJ ?_ h;exact Hr (f:=λ(x:ByteArray) => .str x) (λx=>by simp[AV.bulk]) l
def AH3(l:List ByteArray):Prop:=l.length*16<=reachBytes /\ ∀x∈l,x.size<=reachBytes
def pZ{a:AV}(h:Rd AA 125 a): ∃l,a = .sl none (Ha l)/\AH3 l:=by
 obtain⟨l,i,g,h3⟩:=IU (f:=λ(x:ByteArray) => .str x) (ok:=λ(x:ByteArray)=>x.size<=reachBytes) (P:=AA) (t:=125) (e:=9) kr (λx hx=>oM hx) h;exact⟨l,i,by rw[show AA.bytesOf 9=16 by kernel_rfl]at g;exact g,h3⟩
@[ext] structure Stp where
 kind:Int
 var:ByteArray
 key:List ByteArray
 field:ByteArray
 n:Int
 m:Int
 deriving DecidableEq,Inhabited
def Stp.cf(x:Stp)(g:Option Nat):List AV:=[.int .i64 x.kind,.str x.var,.sl g (Ha x.key),.str x.field,.int .i64 x.n,.int .i64 x.m]
abbrev Stp.c(x:Stp):List AV:=x.cf none
def r7(x:Stp)(g:Option Nat):(x.cf g).length=6:=rfl
def r8(x:Stp)(g:Option Nat):(x.cf g).map borrow1=x.cf none:=rfl
def r6(x:Stp)(g:Option Nat):(x.cf g).any GY=(g.isSome):=by
 cases g<;>rfl
def mZ(x:Stp)(g:Option Nat):(x.cf g).take 6=x.cf g:=rfl
def Stp.cf_pure(x:Stp)(g:Option Nat):Fq (x.cf g)=true:=by
 simp[Stp.cf,Fq,AV.pure,Qm]
def Yb(k:Nat)(x:Stp)(g:Option Nat):F_ k (x.cf g)=true:=by
 simp[Stp.cf,F_,AV.bnd,Sx]
def Stp.c_bnd(k:Nat)(x:Stp):F_ k x.c=true:=Yb k x none
def mY{x:Stp}(h:HL x.c):x.key.length<=9223372036854775807:=by
 have g:(AV.sl none (Ha x.key)).fit:=F4.1 h _ (AB (i:=2) rfl);have j:=g.1
 rwa [Ko]at j
def r_{x:Stp}{B:Nat}(h:Fo x.c<=B):x.var.size<=B:=Hq (AB (i:=1) rfl) h
def M6{x:Stp}{B:Nat}(h:Fo x.c<=B):Fo (Ha x.key)<=B:=Gv (o:=none) (AB (i:=2) rfl) h
def eR{x:Stp}{B:Nat}(h:Fo x.c<=B):x.field.size<=B:=Hq (AB (i:=3) rfl) h
def r9(x:Stp)(g:Option Nat):(x.cf g)[0]? =some (.int .i64 x.kind)/\(x.cf g)[1]? =some (.str x.var)/\(x.cf g)[2]? =some (.sl g (Ha x.key))/\(x.cf g)[3]? =some (.str x.field)/\(x.cf g)[4]? =some (.int .i64 x.n)/\(x.cf g)[5]? =some (.int .i64 x.m):=⟨rfl,rfl,rfl,rfl,rfl,rfl⟩
def Stp.z:Stp:=⟨0,.empty,[],.empty,0,0⟩
def Stp.zero:F8 AA 133=some (.agg (Stp.z.cf (some 1))):=kr
def Stp.ok(_:Stp):Prop:=True
def Stp.rd{a:AV}(h:Rd AA 133 a): ∃x:Stp,a = .agg x.c/\x.ok:=by
 obtain⟨T,rfl,g⟩:=GZ (ts:=[3,9,125,9,3,3]) kr h;obtain⟨U,V,a2,a3,a4,a5,rfl,i,j,o,p,r,t⟩:=Tc g;obtain⟨C,rfl,k0⟩:=L1 i;obtain⟨I,rfl,k1⟩:=oM j;obtain⟨J,rfl,k2⟩:=pZ o;obtain⟨O,rfl,k3⟩:=oM p;obtain⟨P,rfl,k4⟩:=L1 r;obtain⟨R,rfl,k5⟩:=L1 t;exact⟨⟨C,I,J,O,P,R⟩,rfl,trivial⟩
@[ext] structure Stage where
 policy:Policy
 step:Stp
 deriving Inhabited
def Stage.cf(x:Stage)(g i j:Option Nat):List AV:=[.int .i64 x.policy.kind,.int .i64 x.policy.pred.kind,.str x.policy.pred.field,.int .i64 x.policy.pred.n,.int .i64 x.policy.pred.m,.sl g (Gn x.policy.pred.args),.str x.policy.field,.int .i64 x.policy.n,.sl i (GX x.policy.args),.int .i64 x.step.kind,.str x.step.var,.sl j (Ha x.step.key),.str x.step.field,.int .i64 x.step.n,.int .i64 x.step.m]
abbrev Stage.c(x:Stage):List AV:=x.cf none none none
def ABZ(x:Stage):1<=Fo x.c:=by
 have g:1<=(.int .i64 x.policy.kind:AV).bulk:=by simp[AV.bulk]
 exact AJ g (GK (AB (i:=0) rfl))
def eV(x:Stage)(g i j:Option Nat):(x.cf g i j).length=15:=rfl
def eY(x:Stage)(g i j:Option Nat):(x.cf g i j).map borrow1=x.cf none none none:=rfl
def eU(x:Stage)(g i j:Option Nat):(x.cf g i j).any GY=(g.isSome||i.isSome||j.isSome):=by
 cases g<;>cases i<;>cases j<;>rfl
def Zo(x:Stage)(g i j:Option Nat):(x.cf g i j).take 15=x.cf g i j:=rfl
def Stage.cf_pure(x:Stage)(g i j:Option Nat):Fq (x.cf g i j)=true:=by
 simp[Stage.cf,Fq,AV.pure,Ok,KO,Qm]
def ee(x:Stage):Fq x.c=true:=x.cf_pure none none none
def TW(k:Nat)(x:Stage)(g i j:Option Nat):F_ k (x.cf g i j)=true:=by
 simp[Stage.cf,F_,AV.bnd,Px,LK,Sx]
def Stage.c_bnd(k:Nat)(x:Stage):F_ k x.c=true:=TW k x none none none
def IL{x:Stage}{B:Nat}(h:Fo x.c<=B):Fo x.policy.c<=B:=by
 have g:=Hy x.c 0 9;rw[show(x.c.drop 0).take 9=x.policy.c from rfl]at g;omega
def Li{x:Stage}{B:Nat}(h:Fo x.c<=B):Fo x.step.c<=B:=by
 have g:=Hy x.c 9 6;rw[show(x.c.drop 9).take 6=x.step.c from rfl]at g;omega
def eZ(x:Stage)(i j g:Option Nat):(x.cf i j g)[9]? =some (.int .i64 x.step.kind)/\(x.cf i j g)[10]? =some (.str x.step.var)/\(x.cf i j g)[11]? =some (.sl g (Ha x.step.key)):=⟨rfl,rfl,rfl⟩
def QP(x:Stage)(g i j:Option Nat):(x.cf g i j).take 9=x.policy.cf g i:=rfl
def QO(x:Stage)(v:Policy)(o p g:Option Nat)(i j:Option Nat):G8 (x.cf o p g) (v.cf i j)=({ x with policy:=v }:Stage).cf i j g:=rfl
def ST(x:Stage)(i j g:Option Nat):((x.cf i j g).drop 9).take 6=x.step.cf g:=rfl
def TV(x:Stage)(v:Stp)(g i o:Option Nat)(j:Option Nat):splice (x.cf g i o) 9 (v.cf j)=({ x with step:=v }:Stage).cf g i j:=rfl
def Stage.z:Stage:=⟨⟨0,⟨0,.empty,0,0,[]⟩,.empty,0,[]⟩,⟨0,.empty,[],.empty,0,0⟩⟩
def Stage.zero:F8 AA 135=some (.agg (Stage.z.cf (some 5) (some 9) (some 1))):=kr
def Stage.ok(_:Stage):Prop:=True
def Stage.rd{a:AV}(h:Rd AA 135 a): ∃x:Stage,a = .agg x.c/\x.ok:=by
 obtain⟨r,rfl,g⟩:=GZ (ts:=[130,133]) kr h;obtain⟨t,C,rfl,i,j⟩:=IT g;obtain⟨o,rfl,I⟩:=Policy.rd i;obtain⟨p,rfl,J⟩:=Stp.rd j;exact⟨⟨o,p⟩,rfl,trivial⟩
@[ext] structure Route where
 pred:Pred
 path:Regex
 deriving Inhabited
def Route.cf(x:Route)(g i:Option Nat):List AV:=[.int .i64 x.pred.kind,.str x.pred.field,.int .i64 x.pred.n,.int .i64 x.pred.m,.sl g (Gn x.pred.args),.int .i64 x.path.kind,.str x.path.node,.sl i (Kp x.path.args)]
abbrev Route.c(x:Route):List AV:=x.cf none none
def ABa(x:Route):1<=Fo x.c:=by
 have g:1<=(.int .i64 x.pred.kind:AV).bulk:=by simp[AV.bulk]
 exact AJ g (GK (AB (i:=0) rfl))
def e_(x:Route)(g i:Option Nat):(x.cf g i).length=8:=rfl
def fA(x:Route)(g i:Option Nat):(x.cf g i).map borrow1=x.cf none none:=rfl
def e9(x:Route)(g i:Option Nat):(x.cf g i).any GY=(g.isSome||i.isSome):=by
 cases g<;>cases i<;>rfl
def Route.cf_pure(x:Route)(g i:Option Nat):Fq (x.cf g i)=true:=by
 simp[Route.cf,Fq,AV.pure,KO,Pw]
def fB(x:Route):Fq x.c=true:=x.cf_pure none none
def Ta(k:Nat)(x:Route)(g i:Option Nat):F_ k (x.cf g i)=true:=by
 simp[Route.cf,F_,AV.bnd,LK,R1]
def Route.c_bnd(k:Nat)(x:Route):F_ k x.c=true:=Ta k x none none
def Zr{x:Route}{B:Nat}(h:Fo x.c<=B):Fo x.pred.c<=B:=by
 have g:=Hy x.c 0 5;rw[show(x.c.drop 0).take 5=x.pred.c from rfl]at g;omega
def Zs{x:Route}{B:Nat}(h:Fo x.c<=B):Fo x.path.c<=B:=by
 have g:=Hy x.c 5 3;rw[show(x.c.drop 5).take 3=x.path.c from rfl]at g;omega
def SV(x:Route)(g i:Option Nat):(x.cf g i).take 5=x.pred.cf g:=rfl
def SW(x:Route)(i g:Option Nat):((x.cf i g).drop 5).take 3=x.path.cf g:=rfl
def Route.z:Route:=⟨⟨0,.empty,0,0,[]⟩,⟨0,.empty,[]⟩⟩
def Route.ok(_:Route):Prop:=True
def Route.rd{a:AV}(h:Rd AA 260 a): ∃x:Route,a = .agg x.c/\x.ok:=by
 obtain⟨r,rfl,g⟩:=GZ (ts:=[62,258]) kr h;obtain⟨t,C,rfl,i,j⟩:=IT g;obtain⟨o,rfl,I⟩:=Pred.rd i;obtain⟨p,rfl,J⟩:=Regex.rd j;exact⟨⟨o,p⟩,rfl,trivial⟩
@[ext] structure Demand where
 src:Int
 dst:Int
 floor:Int
 ceiling:Int
 deriving DecidableEq,Inhabited
def Demand.c(x:Demand):List AV:=[.int .i64 x.src,.int .i64 x.dst,.int .i64 x.floor,.int .i64 x.ceiling]
def sX(x:Demand):1<=Fo x.c:=by
 have g:1<=(.int .i64 x.src:AV).bulk:=by simp[AV.bulk]
 exact AJ g (GK (AB (i:=0) rfl))
def aA(x:Demand):x.c.length=4:=rfl
def aB(x:Demand):x.c.map borrow1=x.c:=rfl
def Z'(x:Demand):x.c.any GY=false:=by
 rfl
def Yy(x:Demand):x.c.take 4=x.c:=rfl
def Demand.cf_pure(x:Demand):Fq x.c=true:=by
 simp[Demand.c,Fq,AV.pure]
def aE(x:Demand):Fq x.c=true:=x.cf_pure
def Rk(k:Nat)(x:Demand):F_ k x.c=true:=by
 simp[Demand.c,F_,AV.bnd]
def Demand.c_bnd(k:Nat)(x:Demand):F_ k x.c=true:=Rk k x
def aD(x:Demand):x.c[0]? =some (.int .i64 x.src)/\x.c[1]? =some (.int .i64 x.dst)/\x.c[2]? =some (.int .i64 x.floor)/\x.c[3]? =some (.int .i64 x.ceiling):=⟨rfl,rfl,rfl,rfl⟩
def Demand.z:Demand:=⟨0,0,0,0⟩
def Demand.zero:F8 AA 286=some (.agg Demand.z.c):=kr
def Demand.ok(_:Demand):Prop:=True
def Demand.rd{a:AV}(h:Rd AA 286 a): ∃x:Demand,a = .agg x.c/\x.ok:=by
 obtain⟨J,rfl,g⟩:=GZ (ts:=[3,3,3,3]) kr h;obtain⟨O,P,R,T,rfl,i,j,o,p⟩:=MX g;obtain⟨r,rfl,U⟩:=L1 i;obtain⟨t,rfl,V⟩:=L1 j;obtain⟨C,rfl,k2⟩:=L1 o;obtain⟨I,rfl,k3⟩:=L1 p;exact⟨⟨r,t,C,I⟩,rfl,trivial⟩
def K7(l:List Port):List AV:=l.map λx => .agg x.c
def au(l:List Port):(K7 l).length=l.length:=by simp[K7]
def G6{l:List Port}{i:Nat}{x:Port}(h:l[i]? =some x):(K7 l)[i]? =some (.agg x.c):=by simp[K7,h]
def wN{l:List Port}{x:Port}(h:x∈l): .agg x.c∈K7 l:=by rw[K7];exact AN.2 ⟨x,h,rfl⟩
def XS(l:List Port):Fq (K7 l)=true:=by
 induction l with
 |nil=>rfl
 |cons x i g=>simpa [K7,Fq,AV.pure]using⟨mr x,g⟩
def aw(k:Nat)(l:List Port):F_ k (K7 l)=true:=Hv λx=>Port.c_bnd k x
def AD3{l:List Port}{B:Nat}(h:Fo (K7 l)<=B){x:Port}(hx:x∈l):(.agg x.c:AV).bulk<=B:=AJ (GK (wN hx)) h
def jt{l:List Port}{B:Nat}(h:Fo (K7 l)<=B):l.length<=B:=by
 refine AJ ?_ h;exact Hr (f:=λ(x:Port) => .agg x.c) (λx=>by exact AGS x) l
def AD2(l:List Port):Prop:=l.length*24<=reachBytes /\ ∀x∈l,x.ok
def pi{a:AV}(h:Rd AA 87 a): ∃l,a = .sl none (K7 l)/\AD2 l:=by
 obtain⟨l,i,g,h3⟩:=IU (f:=λ(x:Port) => .agg x.c) (ok:=λ(x:Port)=>x.ok) (P:=AA) (t:=87) (e:=127) kr (λx hx=>Port.rd hx) h;exact⟨l,i,by rw[show AA.bytesOf 127=24 by kernel_rfl]at g;exact g,h3⟩
def NC(l:List Wire):List AV:=l.map λx => .agg x.c
def wB(l:List Wire):(NC l).length=l.length:=by simp[NC]
def HX{l:List Wire}{i:Nat}{x:Wire}(h:l[i]? =some x):(NC l)[i]? =some (.agg x.c):=by simp[NC,h]
def XI(l:List Wire):Fq (NC l)=true:=by
 induction l with
 |nil=>rfl
 |cons x i g=>simpa [NC,Fq,AV.pure]using⟨mW x,g⟩
def aq(k:Nat)(l:List Wire):F_ k (NC l)=true:=Hv λx=>Wire.c_bnd k x
def Mr{l:List Wire}{B:Nat}(h:Fo (NC l)<=B):l.length<=B:=by
 refine AJ ?_ h;exact Hr (f:=λ(x:Wire) => .agg x.c) (λx=>by exact AGM x) l
def ADy(l:List Wire):Prop:=l.length*16<=reachBytes /\ ∀x∈l,x.ok
def pV{a:AV}(h:Rd AA 88 a): ∃l,a = .sl none (NC l)/\ADy l:=by
 obtain⟨l,i,g,h3⟩:=IU (f:=λ(x:Wire) => .agg x.c) (ok:=λ(x:Wire)=>x.ok) (P:=AA) (t:=88) (e:=293) kr (λx hx=>Wire.rd hx) h;exact⟨l,i,by rw[show AA.bytesOf 293=16 by kernel_rfl]at g;exact g,h3⟩
def GV(l:List Stage):List AV:=l.map λx => .agg x.c
def Ms(l:List Stage):(GV l).length=l.length:=by simp[GV]
def F9{l:List Stage}{i:Nat}{x:Stage}(h:l[i]? =some x):(GV l)[i]? =some (.agg x.c):=by simp[GV,h]
def pf{l:List Stage}{x:Stage}(h:x∈l): .agg x.c∈GV l:=by rw[GV];exact AN.2 ⟨x,h,rfl⟩
def cw(l:List Stage): ∀x∈GV l,x.cells.length=15:=by
 intro x hx;obtain⟨y,_,rfl⟩:=AN.1 hx;rfl
def ZM(l:List Stage):(∀x∈GV l,x.cells.length=15)=True:=eq_true (cw l)
def pg(a b:List Stage):GV a++GV b=GV (a++b):=by simp[GV]
def VD(l:List Stage):Fq (GV l)=true:=by
 induction l with
 |nil=>rfl
 |cons x i g=>simpa [GV,Fq,AV.pure]using⟨ee x,g⟩
def XL(k:Nat)(l:List Stage):F_ k (GV l)=true:=Hv λx=>Stage.c_bnd k x
def KZ{l:List Stage}{B:Nat}(h:Fo (GV l)<=B){x:Stage}(hx:x∈l):(.agg x.c:AV).bulk<=B:=AJ (GK (pf hx)) h
def Mc{l:List Stage}{B:Nat}(h:Fo (GV l)<=B):l.length<=B:=by
 refine AJ ?_ h;exact Hr (f:=λ(x:Stage) => .agg x.c) (λx=>by exact ABZ x) l
def wF(l:List Stage):Prop:=l.length*200<=reachBytes /\ ∀x∈l,x.ok
def jm{a:AV}(h:Rd AA 90 a): ∃l,a = .sl none (GV l)/\wF l:=by
 obtain⟨l,i,g,h3⟩:=IU (f:=λ(x:Stage) => .agg x.c) (ok:=λ(x:Stage)=>x.ok) (P:=AA) (t:=90) (e:=135) kr (λx hx=>Stage.rd hx) h;exact⟨l,i,by rw[show AA.bytesOf 135=200 by kernel_rfl]at g;exact g,h3⟩
def Jy(l:List Route):List AV:=l.map λx => .agg x.c
def XM(l:List Route):(Jy l).length=l.length:=by simp[Jy]
def LJ{l:List Route}{i:Nat}{x:Route}(h:l[i]? =some x):(Jy l)[i]? =some (.agg x.c):=by simp[Jy,h]
def ph{l:List Route}{x:Route}(h:x∈l): .agg x.c∈Jy l:=by rw[Jy];exact AN.2 ⟨x,h,rfl⟩
def VF(l:List Route):Fq (Jy l)=true:=by
 induction l with
 |nil=>rfl
 |cons x i g=>simpa [Jy,Fq,AV.pure]using⟨fB x,g⟩
def XN(k:Nat)(l:List Route):F_ k (Jy l)=true:=Hv λx=>Route.c_bnd k x
def wI{l:List Route}{B:Nat}(h:Fo (Jy l)<=B){x:Route}(hx:x∈l):(.agg x.c:AV).bulk<=B:=AJ (GK (ph hx)) h
def wH{l:List Route}{B:Nat}(h:Fo (Jy l)<=B):l.length<=B:=by
 refine AJ ?_ h;exact Hr (f:=λ(x:Route) => .agg x.c) (λx=>by exact ABa x) l
def wG(l:List Route):Prop:=l.length*112<=reachBytes /\ ∀x∈l,x.ok
def jn{a:AV}(h:Rd AA 91 a): ∃l,a = .sl none (Jy l)/\wG l:=by
 obtain⟨l,i,g,h3⟩:=IU (f:=λ(x:Route) => .agg x.c) (ok:=λ(x:Route)=>x.ok) (P:=AA) (t:=91) (e:=260) kr (λx hx=>Route.rd hx) h;exact⟨l,i,by rw[show AA.bytesOf 260=112 by kernel_rfl]at g;exact g,h3⟩
def KD(l:List Demand):List AV:=l.map λx => .agg x.c
def kC(l:List Demand):(KD l).length=l.length:=by simp[KD]
def Jb{l:List Demand}{i:Nat}{x:Demand}(h:l[i]? =some x):(KD l)[i]? =some (.agg x.c):=by simp[KD,h]
def S1(l:List Demand):Fq (KD l)=true:=by
 induction l with
 |nil=>rfl
 |cons x i g=>simpa [KD,Fq,AV.pure]using⟨aE x,g⟩
def VJ(k:Nat)(l:List Demand):F_ k (KD l)=true:=Hv λx=>Demand.c_bnd k x
def pu{l:List Demand}{B:Nat}(h:Fo (KD l)<=B):l.length<=B:=by
 refine AJ ?_ h;exact Hr (f:=λ(x:Demand) => .agg x.c) (λx=>by exact sX x) l
def pt(l:List Demand):Prop:=l.length*32<=reachBytes /\ ∀x∈l,x.ok
def dC{a:AV}(h:Rd AA 92 a): ∃l,a = .sl none (KD l)/\pt l:=by
 obtain⟨l,i,g,h3⟩:=IU (f:=λ(x:Demand) => .agg x.c) (ok:=λ(x:Demand)=>x.ok) (P:=AA) (t:=92) (e:=286) kr (λx hx=>Demand.rd hx) h;exact⟨l,i,by rw[show AA.bytesOf 286=32 by kernel_rfl]at g;exact g,h3⟩
@[ext] structure Tenant where
 name:ByteArray
 ports:List Port
 wires:List Wire
 program:List Stage
 routes:List Route
 demands:List Demand
 deriving Inhabited
def Tenant.cf(x:Tenant)(g i j o p:Option Nat):List AV:=[.str x.name,.sl g (K7 x.ports),.sl i (NC x.wires),.sl j (GV x.program),.sl o (Jy x.routes),.sl p (KD x.demands)]
abbrev Tenant.c(x:Tenant):List AV:=x.cf none none none none none
def rz(x:Tenant):1<=Fo x.c:=by
 have g:1<=(.str x.name:AV).bulk:=by simp[AV.bulk]
 exact AJ g (GK (AB (i:=0) rfl))
def Zk(x:Tenant)(g i j o p:Option Nat):(x.cf g i j o p).length=6:=rfl
def Zl(x:Tenant)(g i j o p:Option Nat):(x.cf g i j o p).map borrow1=x.cf none none none none none:=rfl
def Zj(x:Tenant)(g i j o p:Option Nat):(x.cf g i j o p).any GY=(g.isSome||i.isSome||j.isSome||o.isSome||p.isSome):=by
 cases g<;>cases i<;>cases j<;>cases o<;>cases p<;>rfl
def YZ(x:Tenant)(g i j o p:Option Nat):(x.cf g i j o p).take 6=x.cf g i j o p:=rfl
def Tenant.cf_pure(x:Tenant)(g i j o p:Option Nat):Fq (x.cf g i j o p)=true:=by
 simp[Tenant.cf,Fq,AV.pure,S1,XS,VF,VD,XI]
def Zn(x:Tenant):Fq x.c=true:=x.cf_pure none none none none none
def Re(k:Nat)(x:Tenant)(g i j o p:Option Nat):F_ k (x.cf g i j o p)=true:=by
 simp[Tenant.cf,F_,AV.bnd,VJ,aw,XN,XL,aq]
def Tenant.c_bnd(k:Nat)(x:Tenant):F_ k x.c=true:=Re k x none none none none none
def OJ{x:Tenant}(h:HL x.c):x.ports.length<=9223372036854775807:=by
 have g:(AV.sl none (K7 x.ports)).fit:=F4.1 h _ (AB (i:=1) rfl);have j:=g.1
 rwa [au]at j
def SS{x:Tenant}(h:HL x.c):x.program.length<=9223372036854775807:=by
 have g:(AV.sl none (GV x.program)).fit:=F4.1 h _ (AB (i:=3) rfl);have j:=g.1
 rwa [Ms]at j
def TT{x:Tenant}(h:HL x.c):x.routes.length<=9223372036854775807:=by
 have g:(AV.sl none (Jy x.routes)).fit:=F4.1 h _ (AB (i:=4) rfl);have j:=g.1
 rwa [XM]at j
def Ya{x:Tenant}{B:Nat}(h:Fo x.c<=B):x.name.size<=B:=Hq (AB (i:=0) rfl) h
def PG{x:Tenant}{B:Nat}(h:Fo x.c<=B):Fo (K7 x.ports)<=B:=Gv (o:=none) (AB (i:=1) rfl) h
def IK{x:Tenant}{B:Nat}(h:Fo x.c<=B):Fo (NC x.wires)<=B:=Gv (o:=none) (AB (i:=2) rfl) h
def HV{x:Tenant}{B:Nat}(h:Fo x.c<=B):Fo (GV x.program)<=B:=Gv (o:=none) (AB (i:=3) rfl) h
def Ur{x:Tenant}{B:Nat}(h:Fo x.c<=B):Fo (Jy x.routes)<=B:=Gv (o:=none) (AB (i:=4) rfl) h
def TU{x:Tenant}{B:Nat}(h:Fo x.c<=B):Fo (KD x.demands)<=B:=Gv (o:=none) (AB (i:=5) rfl) h
def Zm(x:Tenant)(g i j o p:Option Nat):(x.cf g i j o p)[0]? =some (.str x.name)/\(x.cf g i j o p)[1]? =some (.sl g (K7 x.ports))/\(x.cf g i j o p)[2]? =some (.sl i (NC x.wires))/\(x.cf g i j o p)[3]? =some (.sl j (GV x.program))/\(x.cf g i j o p)[4]? =some (.sl o (Jy x.routes))/\(x.cf g i j o p)[5]? =some (.sl p (KD x.demands)):=⟨rfl,rfl,rfl,rfl,rfl,rfl⟩
def Tenant.z:Tenant:=⟨.empty,[],[],[],[],[]⟩
def Tenant.zero:F8 AA 94=some (.agg (Tenant.z.cf (some 2) (some 2) (some 15) (some 8) (some 4))):=kr
def Tenant.ok(_:Tenant):Prop:=True
def Tenant.rd{a:AV}(h:Rd AA 94 a): ∃x:Tenant,a = .agg x.c/\x.ok:=by
 obtain⟨T,rfl,g⟩:=GZ (ts:=[9,87,88,90,91,92]) kr h;obtain⟨U,V,a2,a3,a4,a5,rfl,i,j,o,p,r,t⟩:=Tc g;obtain⟨C,rfl,k0⟩:=oM i;obtain⟨I,rfl,k1⟩:=pi j;obtain⟨J,rfl,k2⟩:=pV o;obtain⟨O,rfl,k3⟩:=jm p;obtain⟨P,rfl,k4⟩:=jn r;obtain⟨R,rfl,k5⟩:=dC t;exact⟨⟨C,I,J,O,P,R⟩,rfl,trivial⟩
@[ext] structure Node where
 name:ByteArray
 box:Bool
 rules:Int
 entries:Int
 deriving DecidableEq,Inhabited
def Node.c(x:Node):List AV:=[.str x.name,.bool x.box,.int .i64 x.rules,.int .i64 x.entries]
def AGV(x:Node):1<=Fo x.c:=by
 have g:1<=(.str x.name:AV).bulk:=by simp[AV.bulk]
 exact AJ g (GK (AB (i:=0) rfl))
def m6(x:Node):x.c.length=4:=rfl
def m7(x:Node):x.c.map borrow1=x.c:=rfl
def m5(x:Node):x.c.any GY=false:=by
 rfl
def fj(x:Node):x.c.take 4=x.c:=rfl
def Node.cf_pure(x:Node):Fq x.c=true:=by
 simp[Node.c,Fq,AV.pure]
def m9(x:Node):Fq x.c=true:=x.cf_pure
def VW(k:Nat)(x:Node):F_ k x.c=true:=by
 simp[Node.c,F_,AV.bnd]
def Node.c_bnd(k:Nat)(x:Node):F_ k x.c=true:=VW k x
def fk{x:Node}{B:Nat}(h:Fo x.c<=B):x.name.size<=B:=Hq (AB (i:=0) rfl) h
def m8(x:Node):x.c[0]? =some (.str x.name)/\x.c[1]? =some (.bool x.box)/\x.c[2]? =some (.int .i64 x.rules)/\x.c[3]? =some (.int .i64 x.entries):=⟨rfl,rfl,rfl,rfl⟩
def Node.z:Node:=⟨.empty,false,0,0⟩
def Node.zero:F8 AA 124=some (.agg Node.z.c):=kr
def Node.ok(_:Node):Prop:=True
def Node.rd{a:AV}(h:Rd AA 124 a): ∃x:Node,a = .agg x.c/\x.ok:=by
 obtain⟨O,rfl,g⟩:=GZ (ts:=[9,4,3,3]) kr h;obtain⟨P,R,T,U,rfl,i,j,o,p⟩:=MX g;obtain⟨r,rfl,V⟩:=oM i;obtain⟨C,rfl,k1⟩:=SY (t:=4) kr j;obtain⟨I,rfl,k2⟩:=L1 o;obtain⟨J,rfl,k3⟩:=L1 p;exact⟨⟨r,C,I,J⟩,rfl,trivial⟩
@[ext] structure Link where
 src:Int
 dst:Int
 capacity:Int
 deriving DecidableEq,Inhabited
def Link.c(x:Link):List AV:=[.int .i64 x.src,.int .i64 x.dst,.int .i64 x.capacity]
def AGY(x:Link):1<=Fo x.c:=by
 have g:1<=(.int .i64 x.src:AV).bulk:=by simp[AV.bulk]
 exact AJ g (GK (AB (i:=0) rfl))
def nC(x:Link):x.c.length=3:=rfl
def nD(x:Link):x.c.map borrow1=x.c:=rfl
def m_(x:Link):x.c.any GY=false:=by
 rfl
def fm(x:Link):x.c.take 3=x.c:=rfl
def Link.cf_pure(x:Link):Fq x.c=true:=by
 simp[Link.c,Fq,AV.pure]
def nF(x:Link):Fq x.c=true:=x.cf_pure
def VX(k:Nat)(x:Link):F_ k x.c=true:=by
 simp[Link.c,F_,AV.bnd]
def Link.c_bnd(k:Nat)(x:Link):F_ k x.c=true:=VX k x
def nE(x:Link):x.c[0]? =some (.int .i64 x.src)/\x.c[1]? =some (.int .i64 x.dst)/\x.c[2]? =some (.int .i64 x.capacity):=⟨rfl,rfl,rfl⟩
def Link.z:Link:=⟨0,0,0⟩
def Link.zero:F8 AA 182=some (.agg Link.z.c):=kr
def Link.ok(_:Link):Prop:=True
def Link.rd{a:AV}(h:Rd AA 182 a): ∃x:Link,a = .agg x.c/\x.ok:=by
 obtain⟨C,rfl,g⟩:=GZ (ts:=[3,3,3]) kr h;obtain⟨I,J,O,rfl,i,j,o⟩:=H_ g;obtain⟨p,rfl,P⟩:=L1 i;obtain⟨r,rfl,R⟩:=L1 j;obtain⟨t,rfl,T⟩:=L1 o;exact⟨⟨p,r,t⟩,rfl,trivial⟩
@[ext] structure Edge where
 name:ByteArray
 node:Int
 deriving DecidableEq,Inhabited
def Edge.c(x:Edge):List AV:=[.str x.name,.int .i64 x.node]
def AGe(x:Edge):1<=Fo x.c:=by
 have g:1<=(.str x.name:AV).bulk:=by simp[AV.bulk]
 exact AJ g (GK (AB (i:=0) rfl))
def nT(x:Edge):x.c.length=2:=rfl
def nU(x:Edge):x.c.map borrow1=x.c:=rfl
def nS(x:Edge):x.c.any GY=false:=by
 rfl
def Edge.cf_pure(x:Edge):Fq x.c=true:=by
 simp[Edge.c,Fq,AV.pure]
def nW(x:Edge):Fq x.c=true:=x.cf_pure
def Va(k:Nat)(x:Edge):F_ k x.c=true:=by
 simp[Edge.c,F_,AV.bnd]
def Edge.c_bnd(k:Nat)(x:Edge):F_ k x.c=true:=Va k x
def gE{x:Edge}{B:Nat}(h:Fo x.c<=B):x.name.size<=B:=Hq (AB (i:=0) rfl) h
def nV(x:Edge):x.c[0]? =some (.str x.name)/\x.c[1]? =some (.int .i64 x.node):=⟨rfl,rfl⟩
def Edge.z:Edge:=⟨.empty,0⟩
def Edge.ok(_:Edge):Prop:=True
def Edge.rd{a:AV}(h:Rd AA 82 a): ∃x:Edge,a = .agg x.c/\x.ok:=by
 obtain⟨r,rfl,g⟩:=GZ (ts:=[9,3]) kr h;obtain⟨t,C,rfl,i,j⟩:=IT g;obtain⟨o,rfl,I⟩:=oM i;obtain⟨p,rfl,J⟩:=L1 j;exact⟨⟨o,p⟩,rfl,trivial⟩
def Kq(l:List Node):List AV:=l.map λx => .agg x.c
def wP(l:List Node):(Kq l).length=l.length:=by simp[Kq]
def Nw{l:List Node}{i:Nat}{x:Node}(h:l[i]? =some x):(Kq l)[i]? =some (.agg x.c):=by simp[Kq,h]
def wO{l:List Node}{x:Node}(h:x∈l): .agg x.c∈Kq l:=by rw[Kq];exact AN.2 ⟨x,h,rfl⟩
def R4(l:List Node):Fq (Kq l)=true:=by
 induction l with
 |nil=>rfl
 |cons x i g=>simpa [Kq,Fq,AV.pure]using⟨m9 x,g⟩
def UL(k:Nat)(l:List Node):F_ k (Kq l)=true:=Hv λx=>Node.c_bnd k x
def AD6{l:List Node}{B:Nat}(h:Fo (Kq l)<=B){x:Node}(hx:x∈l):(.agg x.c:AV).bulk<=B:=AJ (GK (wO hx)) h
def jx{l:List Node}{B:Nat}(h:Fo (Kq l)<=B):l.length<=B:=by
 refine AJ ?_ h;exact Hr (f:=λ(x:Node) => .agg x.c) (λx=>by exact AGV x) l
def AD5(l:List Node):Prop:=l.length*40<=reachBytes /\ ∀x∈l,x.ok
def pj{a:AV}(h:Rd AA 22 a): ∃l,a = .sl none (Kq l)/\AD5 l:=by
 obtain⟨l,i,g,h3⟩:=IU (f:=λ(x:Node) => .agg x.c) (ok:=λ(x:Node)=>x.ok) (P:=AA) (t:=22) (e:=124) kr (λx hx=>Node.rd hx) h;exact⟨l,i,by rw[show AA.bytesOf 124=40 by kernel_rfl]at g;exact g,h3⟩
def Nx(l:List Link):List AV:=l.map λx => .agg x.c
def wQ(l:List Link):(Nx l).length=l.length:=by simp[Nx]
def UM{l:List Link}{i:Nat}{x:Link}(h:l[i]? =some x):(Nx l)[i]? =some (.agg x.c):=by simp[Nx,h]
def R5(l:List Link):Fq (Nx l)=true:=by
 induction l with
 |nil=>rfl
 |cons x i g=>simpa [Nx,Fq,AV.pure]using⟨nF x,g⟩
def UN(k:Nat)(l:List Link):F_ k (Nx l)=true:=Hv λx=>Link.c_bnd k x
def AD8{l:List Link}{B:Nat}(h:Fo (Nx l)<=B):l.length<=B:=by
 refine AJ ?_ h;exact Hr (f:=λ(x:Link) => .agg x.c) (λx=>by exact AGY x) l
def AD7(l:List Link):Prop:=l.length*24<=reachBytes /\ ∀x∈l,x.ok
def pl{a:AV}(h:Rd AA 23 a): ∃l,a = .sl none (Nx l)/\AD7 l:=by
 obtain⟨l,i,g,h3⟩:=IU (f:=λ(x:Link) => .agg x.c) (ok:=λ(x:Link)=>x.ok) (P:=AA) (t:=23) (e:=182) kr (λx hx=>Link.rd hx) h;exact⟨l,i,by rw[show AA.bytesOf 182=24 by kernel_rfl]at g;exact g,h3⟩
def Kr(l:List Edge):List AV:=l.map λx => .agg x.c
def wZ(l:List Edge):(Kr l).length=l.length:=by simp[Kr]
def N0{l:List Edge}{i:Nat}{x:Edge}(h:l[i]? =some x):(Kr l)[i]? =some (.agg x.c):=by simp[Kr,h]
def wY{l:List Edge}{x:Edge}(h:x∈l): .agg x.c∈Kr l:=by rw[Kr];exact AN.2 ⟨x,h,rfl⟩
def R7(l:List Edge):Fq (Kr l)=true:=by
 induction l with
 |nil=>rfl
 |cons x i g=>simpa [Kr,Fq,AV.pure]using⟨nW x,g⟩
def UP(k:Nat)(l:List Edge):F_ k (Kr l)=true:=Hv λx=>Edge.c_bnd k x
def AEA{l:List Edge}{B:Nat}(h:Fo (Kr l)<=B){x:Edge}(hx:x∈l):(.agg x.c:AV).bulk<=B:=AJ (GK (wY hx)) h
def kB{l:List Edge}{B:Nat}(h:Fo (Kr l)<=B):l.length<=B:=by
 refine AJ ?_ h;exact Hr (f:=λ(x:Edge) => .agg x.c) (λx=>by exact AGe x) l
def AD'(l:List Edge):Prop:=l.length*24<=reachBytes /\ ∀x∈l,x.ok
def pr{a:AV}(h:Rd AA 24 a): ∃l,a = .sl none (Kr l)/\AD' l:=by
 obtain⟨l,i,g,h3⟩:=IU (f:=λ(x:Edge) => .agg x.c) (ok:=λ(x:Edge)=>x.ok) (P:=AA) (t:=24) (e:=82) kr (λx hx=>Edge.rd hx) h;exact⟨l,i,by rw[show AA.bytesOf 82=24 by kernel_rfl]at g;exact g,h3⟩
@[ext] structure Network where
 nodes:List Node
 links:List Link
 edges:List Edge
 deriving DecidableEq,Inhabited
def Network.cf(x:Network)(g i j:Option Nat):List AV:=[.sl g (Kq x.nodes),.sl i (Nx x.links),.sl j (Kr x.edges)]
abbrev Network.c(x:Network):List AV:=x.cf none none none
def Yl(x:Network)(g i j:Option Nat):(x.cf g i j).length=3:=rfl
def Ym(x:Network)(g i j:Option Nat):(x.cf g i j).map borrow1=x.cf none none none:=rfl
def Yk(x:Network)(g i j:Option Nat):(x.cf g i j).any GY=(g.isSome||i.isSome||j.isSome):=by
 cases g<;>cases i<;>cases j<;>rfl
def Vx(x:Network)(g i j:Option Nat):(x.cf g i j).take 3=x.cf g i j:=rfl
def Network.cf_pure(x:Network)(g i j:Option Nat):Fq (x.cf g i j)=true:=by
 simp[Network.cf,Fq,AV.pure,R7,R5,R4]
def QW(k:Nat)(x:Network)(g i j:Option Nat):F_ k (x.cf g i j)=true:=by
 simp[Network.cf,F_,AV.bnd,UP,UN,UL]
def Network.c_bnd(k:Nat)(x:Network):F_ k x.c=true:=QW k x none none none
def OM{x:Network}{B:Nat}(h:Fo x.c<=B):Fo (Kq x.nodes)<=B:=Gv (o:=none) (AB (i:=0) rfl) h
def Uv{x:Network}{B:Nat}(h:Fo x.c<=B):Fo (Nx x.links)<=B:=Gv (o:=none) (AB (i:=1) rfl) h
def ON{x:Network}{B:Nat}(h:Fo x.c<=B):Fo (Kr x.edges)<=B:=Gv (o:=none) (AB (i:=2) rfl) h
def Yn(x:Network)(g i j:Option Nat):(x.cf g i j)[0]? =some (.sl g (Kq x.nodes))/\(x.cf g i j)[1]? =some (.sl i (Nx x.links))/\(x.cf g i j)[2]? =some (.sl j (Kr x.edges)):=⟨rfl,rfl,rfl⟩
def Network.z:Network:=⟨[],[],[]⟩
def Network.ok(_:Network):Prop:=True
def Network.rd{a:AV}(h:Rd AA 26 a): ∃x:Network,a = .agg x.c/\x.ok:=by
 obtain⟨C,rfl,g⟩:=GZ (ts:=[22,23,24]) kr h;obtain⟨I,J,O,rfl,i,j,o⟩:=H_ g;obtain⟨p,rfl,P⟩:=pj i;obtain⟨r,rfl,R⟩:=pl j;obtain⟨t,rfl,T⟩:=pr o;exact⟨⟨p,r,t⟩,rfl,trivial⟩
@[ext] structure Contract where
 src:ByteArray
 dst:ByteArray
 fromPort:Int
 toPort:Int
 pred:Pred
 via:Int
 capacity:Int
 price:Int
 deriving Inhabited
def Contract.cf(x:Contract)(g:Option Nat):List AV:=[.str x.src,.str x.dst,.int .i64 x.fromPort,.int .i64 x.toPort,.int .i64 x.pred.kind,.str x.pred.field,.int .i64 x.pred.n,.int .i64 x.pred.m,.sl g (Gn x.pred.args),.int .i64 x.via,.int .i64 x.capacity,.int .i64 x.price]
abbrev Contract.c(x:Contract):List AV:=x.cf none
def gO(x:Contract):1<=Fo x.c:=by
 have g:1<=(.str x.src:AV).bulk:=by simp[AV.bulk]
 exact AJ g (GK (AB (i:=0) rfl))
def V7(x:Contract)(g:Option Nat):(x.cf g).length=12:=rfl
def V8(x:Contract)(g:Option Nat):(x.cf g).map borrow1=x.cf none:=rfl
def V6(x:Contract)(g:Option Nat):(x.cf g).any GY=(g.isSome):=by
 cases g<;>rfl
def U0(x:Contract)(g:Option Nat):(x.cf g).take 12=x.cf g:=rfl
def Contract.cf_pure(x:Contract)(g:Option Nat):Fq (x.cf g)=true:=by
 simp[Contract.cf,Fq,AV.pure,KO]
def V_(x:Contract):Fq x.c=true:=x.cf_pure none
def PJ(k:Nat)(x:Contract)(g:Option Nat):F_ k (x.cf g)=true:=by
 simp[Contract.cf,F_,AV.bnd,LK]
def Contract.c_bnd(k:Nat)(x:Contract):F_ k x.c=true:=PJ k x none
def U1{x:Contract}{B:Nat}(h:Fo x.c<=B):Fo x.pred.c<=B:=by
 have g:=Hy x.c 4 5;rw[show(x.c.drop 4).take 5=x.pred.c from rfl]at g;omega
def V9(x:Contract)(g:Option Nat):(x.cf g)[0]? =some (.str x.src)/\(x.cf g)[1]? =some (.str x.dst)/\(x.cf g)[2]? =some (.int .i64 x.fromPort)/\(x.cf g)[3]? =some (.int .i64 x.toPort)/\(x.cf g)[9]? =some (.int .i64 x.via)/\(x.cf g)[10]? =some (.int .i64 x.capacity)/\(x.cf g)[11]? =some (.int .i64 x.price):=⟨rfl,rfl,rfl,rfl,rfl,rfl,rfl⟩
def Pa(x:Contract)(g:Option Nat):((x.cf g).drop 4).take 5=x.pred.cf g:=rfl
def Contract.z:Contract:=⟨.empty,.empty,0,0,⟨0,.empty,0,0,[]⟩,0,0,0⟩
def Contract.zero:F8 AA 64=some (.agg (Contract.z.cf (some 5))):=kr
def Contract.ok(_:Contract):Prop:=True
def Contract.rd{a:AV}(h:Rd AA 64 a): ∃x:Contract,a = .agg x.c/\x.ok:=by
 obtain⟨ps,rfl,g⟩:=GZ (ts:=[9,9,3,3,62,3,3,3]) kr h;obtain⟨a0,a1,a2,a3,a4,a5,a6,a7,rfl,i,j,o,p,r,t,C,I⟩:=fI g;obtain⟨J,rfl,k0⟩:=oM i;obtain⟨O,rfl,k1⟩:=oM j;obtain⟨P,rfl,k2⟩:=L1 o;obtain⟨R,rfl,k3⟩:=L1 p;obtain⟨T,rfl,k4⟩:=Pred.rd r;obtain⟨U,rfl,k5⟩:=L1 t;obtain⟨V,rfl,k6⟩:=L1 C;obtain⟨v7,rfl,k7⟩:=L1 I;exact⟨⟨J,O,P,R,T,U,V,v7⟩,rfl,trivial⟩
def Gf(l:List Fld):List AV:=l.map λx => .agg x.c
def Sz(l:List Fld):(Gf l).length=l.length:=by simp[Gf]
def HJ{l:List Fld}{i:Nat}{x:Fld}(h:l[i]? =some x):(Gf l)[i]? =some (.agg x.c):=by simp[Gf,h]
def XV{l:List Fld}{x:Fld}(h:x∈l): .agg x.c∈Gf l:=by rw[Gf];exact AN.2 ⟨x,h,rfl⟩
def UO(l:List Fld):Fq (Gf l)=true:=by
 induction l with
 |nil=>rfl
 |cons x i g=>simpa [Gf,Fq,AV.pure]using⟨sV x,g⟩
def XW(k:Nat)(l:List Fld):F_ k (Gf l)=true:=Hv λx=>Fld.c_bnd k x
def AH9{l:List Fld}{B:Nat}(h:Fo (Gf l)<=B){x:Fld}(hx:x∈l):(.agg x.c:AV).bulk<=B:=AJ (GK (XV hx)) h
def S0{l:List Fld}{B:Nat}(h:Fo (Gf l)<=B):l.length<=B:=by
 refine AJ ?_ h;exact Hr (f:=λ(x:Fld) => .agg x.c) (λx=>by exact AJd x) l
def AH8(l:List Fld):Prop:=l.length*32<=reachBytes /\ ∀x∈l,x.ok
def ay{a:AV}(h:Rd AA 27 a): ∃l,a = .sl none (Gf l)/\AH8 l:=by
 obtain⟨l,i,g,h3⟩:=IU (f:=λ(x:Fld) => .agg x.c) (ok:=λ(x:Fld)=>x.ok) (P:=AA) (t:=27) (e:=122) kr (λx hx=>Fld.rd hx) h;exact⟨l,i,by rw[show AA.bytesOf 122=32 by kernel_rfl]at g;exact g,h3⟩
def H6(l:List Tenant):List AV:=l.map λx => .agg x.c
def ND(l:List Tenant):(H6 l).length=l.length:=by simp[H6]
def F7{l:List Tenant}{i:Nat}{x:Tenant}(h:l[i]? =some x):(H6 l)[i]? =some (.agg x.c):=by simp[H6,h]
def jj{l:List Tenant}{x:Tenant}(h:x∈l): .agg x.c∈H6 l:=by rw[H6];exact AN.2 ⟨x,h,rfl⟩
def Sw(l:List Tenant):Fq (H6 l)=true:=by
 induction l with
 |nil=>rfl
 |cons x i g=>simpa [H6,Fq,AV.pure]using⟨Zn x,g⟩
def VC(k:Nat)(l:List Tenant):F_ k (H6 l)=true:=Hv λx=>Tenant.c_bnd k x
def Oj{l:List Tenant}{B:Nat}(h:Fo (H6 l)<=B){x:Tenant}(hx:x∈l):(.agg x.c:AV).bulk<=B:=AJ (GK (jj hx)) h
def XK{l:List Tenant}{B:Nat}(h:Fo (H6 l)<=B):l.length<=B:=by
 refine AJ ?_ h;exact Hr (f:=λ(x:Tenant) => .agg x.c) (λx=>by exact rz x) l
def pW(l:List Tenant):Prop:=l.length*136<=reachBytes /\ ∀x∈l,x.ok
def cq{a:AV}(h:Rd AA 28 a): ∃l,a = .sl none (H6 l)/\pW l:=by
 obtain⟨l,i,g,h3⟩:=IU (f:=λ(x:Tenant) => .agg x.c) (ok:=λ(x:Tenant)=>x.ok) (P:=AA) (t:=28) (e:=94) kr (λx hx=>Tenant.rd hx) h;exact⟨l,i,by rw[show AA.bytesOf 94=136 by kernel_rfl]at g;exact g,h3⟩
def HA(l:List Contract):List AV:=l.map λx => .agg x.c
def NR(l:List Contract):(HA l).length=l.length:=by simp[HA]
def GT{l:List Contract}{i:Nat}{x:Contract}(h:l[i]? =some x):(HA l)[i]? =some (.agg x.c):=by simp[HA,h]
def ZS{l:List Contract}{x:Contract}(h:x∈l): .agg x.c∈HA l:=by rw[HA];exact AN.2 ⟨x,h,rfl⟩
def P0(l:List Contract):Fq (HA l)=true:=by
 induction l with
 |nil=>rfl
 |cons x i g=>simpa [HA,Fq,AV.pure]using⟨V_ x,g⟩
def RX(k:Nat)(l:List Contract):F_ k (HA l)=true:=Hv λx=>Contract.c_bnd k x
def dG{l:List Contract}{B:Nat}(h:Fo (HA l)<=B){x:Contract}(hx:x∈l):(.agg x.c:AV).bulk<=B:=AJ (GK (ZS hx)) h
def I8{l:List Contract}{B:Nat}(h:Fo (HA l)<=B):l.length<=B:=by
 refine AJ ?_ h;exact Hr (f:=λ(x:Contract) => .agg x.c) (λx=>by exact gO x) l
def dE(l:List Contract):Prop:=l.length*136<=reachBytes /\ ∀x∈l,x.ok
def XZ{a:AV}(h:Rd AA 29 a): ∃l,a = .sl none (HA l)/\dE l:=by
 obtain⟨l,i,g,h3⟩:=IU (f:=λ(x:Contract) => .agg x.c) (ok:=λ(x:Contract)=>x.ok) (P:=AA) (t:=29) (e:=64) kr (λx hx=>Contract.rd hx) h;exact⟨l,i,by rw[show AA.bytesOf 64=136 by kernel_rfl]at g;exact g,h3⟩
@[ext] structure Setup where
 network:Network
 fields:List Fld
 tenants:List Tenant
 contracts:List Contract
 deriving Inhabited
def Setup.cf(x:Setup)(g i j o p r:Option Nat):List AV:=[.sl g (Kq x.network.nodes),.sl i (Nx x.network.links),.sl j (Kr x.network.edges),.sl o (Gf x.fields),.sl p (H6 x.tenants),.sl r (HA x.contracts)]
abbrev Setup.c(x:Setup):List AV:=x.cf none none none none none none
def ey(x:Setup)(g i j o p r:Option Nat):(x.cf g i j o p r).length=6:=rfl
def ez(x:Setup)(g i j o p r:Option Nat):(x.cf g i j o p r).map borrow1=x.cf none none none none none none:=rfl
def eu(x:Setup)(g i j o p r:Option Nat):(x.cf g i j o p r).any GY=(g.isSome||i.isSome||j.isSome||o.isSome||p.isSome||r.isSome):=by
 cases g<;>cases i<;>cases j<;>cases o<;>cases p<;>cases r<;>rfl
def Zq(x:Setup)(g i j o p r:Option Nat):(x.cf g i j o p r).take 6=x.cf g i j o p r:=rfl
def Setup.cf_pure(x:Setup)(g i j o p r:Option Nat):Fq (x.cf g i j o p r)=true:=by
 simp[Setup.cf,Fq,AV.pure,P0,R7,UO,R5,R4,Sw]
def TZ(k:Nat)(x:Setup)(g i j o p r:Option Nat):F_ k (x.cf g i j o p r)=true:=by
 simp[Setup.cf,F_,AV.bnd,RX,UP,XW,UN,UL,VC]
def Setup.c_bnd(k:Nat)(x:Setup):F_ k x.c=true:=TZ k x none none none none none none
def TY{x:Setup}(h:HL x.c):x.tenants.length<=9223372036854775807:=by
 have g:(AV.sl none (H6 x.tenants)).fit:=F4.1 h _ (AB (i:=4) rfl);have j:=g.1
 rwa [ND]at j
def RF{x:Setup}(h:HL x.c):x.contracts.length<=9223372036854775807:=by
 have g:(AV.sl none (HA x.contracts)).fit:=F4.1 h _ (AB (i:=5) rfl);have j:=g.1
 rwa [NR]at j
def OK{x:Setup}{B:Nat}(h:Fo x.c<=B):Fo x.network.c<=B:=by
 have g:=Hy x.c 0 3;rw[show(x.c.drop 0).take 3=x.network.c from rfl]at g;omega
def JI{x:Setup}{B:Nat}(h:Fo x.c<=B):Fo (Gf x.fields)<=B:=Gv (o:=none) (AB (i:=3) rfl) h
def IZ{x:Setup}{B:Nat}(h:Fo x.c<=B):Fo (H6 x.tenants)<=B:=Gv (o:=none) (AB (i:=4) rfl) h
def HM{x:Setup}{B:Nat}(h:Fo x.c<=B):Fo (HA x.contracts)<=B:=Gv (o:=none) (AB (i:=5) rfl) h
def e7(x:Setup)(g r i j o p:Option Nat):(x.cf g r i j o p)[0]? =some (.sl g (Kq x.network.nodes))/\(x.cf g r i j o p)[2]? =some (.sl i (Kr x.network.edges))/\(x.cf g r i j o p)[3]? =some (.sl j (Gf x.fields))/\(x.cf g r i j o p)[4]? =some (.sl o (H6 x.tenants))/\(x.cf g r i j o p)[5]? =some (.sl p (HA x.contracts)):=⟨rfl,rfl,rfl,rfl,rfl⟩
def PV(x:Setup)(g i j o p r:Option Nat):(x.cf g i j o p r).take 3=x.network.cf g i j:=rfl
def Setup.z:Setup:=⟨⟨[],[],[]⟩,[],[],[]⟩
def Setup.zero:F8 AA 31=some (.agg (Setup.z.cf (some 4) (some 3) (some 2) (some 3) (some 6) (some 12))):=kr
def Setup.ok(_:Setup):Prop:=True
def Setup.rd{a:AV}(h:Rd AA 31 a): ∃x:Setup,a = .agg x.c/\x.ok:=by
 obtain⟨J,rfl,g⟩:=GZ (ts:=[26,27,28,29]) kr h;obtain⟨O,P,R,T,rfl,i,j,o,p⟩:=MX g;obtain⟨r,rfl,U⟩:=Network.rd i;obtain⟨t,rfl,V⟩:=ay j;obtain⟨C,rfl,k2⟩:=cq o;obtain⟨I,rfl,k3⟩:=XZ p;exact⟨⟨r,t,C,I⟩,rfl,trivial⟩
def Gi(l:List Int):List AV:=l.map λx => .int .i64 x
def Ho(l:List Int):(Gi l).length=l.length:=by simp[Gi]
def Gj{l:List Int}{i:Nat}{x:Int}(h:l[i]? =some x):(Gi l)[i]? =some (.int .i64 x):=by simp[Gi,h]
def XU(l:List Int): ∀x∈Gi l,x.cells.length=1:=by
 intro x hx;obtain⟨y,_,rfl⟩:=AN.1 hx;rfl
def jy(l:List Int):(∀x∈Gi l,x.cells.length=1)=True:=eq_true (XU l)
def po(l:List Int)(k:Nat):(Gi l).take k=Gi (l.take k):=by simp[Gi]
def wS(a:List Int)(x:Int):Gi a++[.int .i64 x]=Gi (a++[x]):=by simp[Gi]
def JJ(l:List Int):Fq (Gi l)=true:=by
 induction l with
 |nil=>rfl
 |cons x i g=>simpa [Gi,Fq,AV.pure]using g
def Mt(k:Nat)(l:List Int):F_ k (Gi l)=true:=Hv λx=>rfl
def AH7{l:List Int}{B:Nat}(h:Fo (Gi l)<=B):l.length<=B:=by
 refine AJ ?_ h;exact Hr (f:=λ(x:Int) => .int .i64 x) (λx=>by simp[AV.bulk]) l
def AH6(l:List Int):Prop:=l.length*8<=reachBytes /\ ∀x∈l,IntKind.i64.min<=x/\x<=IntKind.i64.max
def Ny{a:AV}(h:Rd AA 72 a): ∃l,a = .sl none (Gi l)/\AH6 l:=by
 obtain⟨l,i,g,h3⟩:=IU (f:=λ(x:Int) => .int .i64 x) (ok:=λ(x:Int)=>IntKind.i64.min<=x/\x<=IntKind.i64.max) (P:=AA) (t:=72) (e:=3) kr (λx hx=>L1 hx) h;exact⟨l,i,by rw[show AA.bytesOf 3=8 by kernel_rfl]at g;exact g,h3⟩
@[ext] structure Variable where
 name:ByteArray
 family:Int
 widths:List Int
 n:Int
 m:Int
 deriving DecidableEq,Inhabited
def Variable.cf(x:Variable)(g:Option Nat):List AV:=[.str x.name,.int .i64 x.family,.sl g (Gi x.widths),.int .i64 x.n,.int .i64 x.m]
abbrev Variable.c(x:Variable):List AV:=x.cf none
def Vt(x:Variable)(g:Option Nat):(x.cf g).length=5:=rfl
def Vu(x:Variable)(g:Option Nat):(x.cf g).map borrow1=x.cf none:=rfl
def Vs(x:Variable)(g:Option Nat):(x.cf g).any GY=(g.isSome):=by
 cases g<;>rfl
def Uq(x:Variable)(g:Option Nat):(x.cf g).take 5=x.cf g:=rfl
def Variable.cf_pure(x:Variable)(g:Option Nat):Fq (x.cf g)=true:=by
 simp[Variable.cf,Fq,AV.pure,JJ]
def Vw(x:Variable):Fq x.c=true:=x.cf_pure none
def PF(k:Nat)(x:Variable)(g:Option Nat):F_ k (x.cf g)=true:=by
 simp[Variable.cf,F_,AV.bnd,Mt]
def Variable.c_bnd(k:Nat)(x:Variable):F_ k x.c=true:=PF k x none
def Vv(x:Variable)(g:Option Nat):(x.cf g)[0]? =some (.str x.name)/\(x.cf g)[1]? =some (.int .i64 x.family)/\(x.cf g)[2]? =some (.sl g (Gi x.widths))/\(x.cf g)[3]? =some (.int .i64 x.n)/\(x.cf g)[4]? =some (.int .i64 x.m):=⟨rfl,rfl,rfl,rfl,rfl⟩
def Variable.z:Variable:=⟨.empty,0,[],0,0⟩
def Variable.zero:F8 AA 274=some (.agg (Variable.z.cf (some 1))):=kr
def Variable.ok(_:Variable):Prop:=True
@[ext] structure Sizes where
 nodes:Int
 depth:Int
 deriving DecidableEq,Inhabited
def Sizes.c(x:Sizes):List AV:=[.int .i64 x.nodes,.int .i64 x.depth]
def eh(x:Sizes):x.c.length=2:=rfl
def ei(x:Sizes):x.c.map borrow1=x.c:=rfl
def ef(x:Sizes):x.c.any GY=false:=by
 rfl
def Zp(x:Sizes):x.c.take 2=x.c:=rfl
def Sizes.cf_pure(x:Sizes):Fq x.c=true:=by
 simp[Sizes.c,Fq,AV.pure]
def TX(k:Nat)(x:Sizes):F_ k x.c=true:=by
 simp[Sizes.c,F_,AV.bnd]
def Sizes.c_bnd(k:Nat)(x:Sizes):F_ k x.c=true:=TX k x
def ej(x:Sizes):x.c[0]? =some (.int .i64 x.nodes)/\x.c[1]? =some (.int .i64 x.depth):=⟨rfl,rfl⟩
def RE(x:Sizes)(v:Int):G8 x.c [.int .i64 v]=({ x with nodes:=v }:Sizes).c:=rfl
def SU(x:Sizes)(v:Int):splice x.c 1 [.int .i64 v]=({ x with depth:=v }:Sizes).c:=rfl
def Sizes.z:Sizes:=⟨0,0⟩
def Sizes.zero:F8 AA 226=some (.agg Sizes.z.c):=kr
def Sizes.ok(_:Sizes):Prop:=True
@[ext] structure Entry where
 var:ByteArray
 key:List Int
 n:Int
 at_:Int
 deriving DecidableEq,Inhabited
def Entry.cf(x:Entry)(g:Option Nat):List AV:=[.str x.var,.sl g (Gi x.key),.int .i64 x.n,.int .i64 x.at_]
abbrev Entry.c(x:Entry):List AV:=x.cf none
def ABi(x:Entry):1<=Fo x.c:=by
 have g:1<=(.str x.var:AV).bulk:=by simp[AV.bulk]
 exact AJ g (GK (AB (i:=0) rfl))
def fy(x:Entry)(g:Option Nat):(x.cf g).length=4:=rfl
def f_(x:Entry)(g:Option Nat):(x.cf g).map borrow1=x.cf none:=rfl
def fw(x:Entry)(g:Option Nat):(x.cf g).any GY=(g.isSome):=by
 cases g<;>rfl
def Z7(x:Entry)(g:Option Nat):(x.cf g).take 4=x.cf g:=rfl
def Entry.cf_pure(x:Entry)(g:Option Nat):Fq (x.cf g)=true:=by
 simp[Entry.cf,Fq,AV.pure,JJ]
def Tk(x:Entry):Fq x.c=true:=x.cf_pure none
def Tj(k:Nat)(x:Entry)(g:Option Nat):F_ k (x.cf g)=true:=by
 simp[Entry.cf,F_,AV.bnd,Mt]
def Entry.c_bnd(k:Nat)(x:Entry):F_ k x.c=true:=Tj k x none
def gD{x:Entry}{B:Nat}(h:Fo x.c<=B):Fo (Gi x.key)<=B:=Gv (o:=none) (AB (i:=1) rfl) h
def gC(x:Entry)(g:Option Nat):(x.cf g)[0]? =some (.str x.var)/\(x.cf g)[1]? =some (.sl g (Gi x.key))/\(x.cf g)[2]? =some (.int .i64 x.n)/\(x.cf g)[3]? =some (.int .i64 x.at_):=⟨rfl,rfl,rfl,rfl⟩
def Ti(x:Entry)(v:ByteArray)(g:Option Nat):G8 (x.cf g) [.str v]=({ x with var:=v }:Entry).cf g:=rfl
def Ux(x:Entry)(v:List Int)(g:Option Nat)(p:Option Nat):splice (x.cf g) 1 [.sl p (Gi v)]=({ x with key:=v }:Entry).cf p:=rfl
def Yu(x:Entry)(v:Int)(g:Option Nat):splice (x.cf g) 2 [.int .i64 v]=({ x with n:=v }:Entry).cf g:=rfl
def Uy(x:Entry)(v:Int)(g:Option Nat):splice (x.cf g) 3 [.int .i64 v]=({ x with at_:=v }:Entry).cf g:=rfl
def Entry.z:Entry:=⟨.empty,[],0,0⟩
def Entry.zero:F8 AA 159=some (.agg (Entry.z.cf (some 1))):=kr
def Entry.ok(_:Entry):Prop:=True
def Entry.rd{a:AV}(h:Rd AA 159 a): ∃x:Entry,a = .agg x.c/\x.ok:=by
 obtain⟨J,rfl,g⟩:=GZ (ts:=[9,72,3,3]) kr h;obtain⟨O,P,R,T,rfl,i,j,o,p⟩:=MX g;obtain⟨r,rfl,U⟩:=oM i;obtain⟨t,rfl,V⟩:=Ny j;obtain⟨C,rfl,k2⟩:=L1 o;obtain⟨I,rfl,k3⟩:=L1 p;exact⟨⟨r,t,C,I⟩,rfl,trivial⟩
@[ext] structure Delivery where
 tenant:Int
 head:Head
 chain:List Int
 deriving DecidableEq,Inhabited
def Delivery.cf(x:Delivery)(g:Option Nat):List AV:=[.int .i64 x.tenant,.int .i64 x.head.h0,.int .i64 x.head.h1,.int .i64 x.head.h2,.int .i64 x.head.h3,.int .i64 x.head.h4,.int .i64 x.head.h5,.int .i64 x.head.h6,.int .i64 x.head.h7,.int .i64 x.head.h8,.int .i64 x.head.h9,.sl g (Gi x.chain)]
abbrev Delivery.c(x:Delivery):List AV:=x.cf none
def V2(x:Delivery)(g:Option Nat):(x.cf g).length=12:=rfl
def V3(x:Delivery)(g:Option Nat):(x.cf g).map borrow1=x.cf none:=rfl
def V1(x:Delivery)(g:Option Nat):(x.cf g).any GY=(g.isSome):=by
 cases g<;>rfl
def Delivery.cf_pure(x:Delivery)(g:Option Nat):Fq (x.cf g)=true:=by
 simp[Delivery.cf,Fq,AV.pure,JJ]
def V5(x:Delivery):Fq x.c=true:=x.cf_pure none
def PI(k:Nat)(x:Delivery)(g:Option Nat):F_ k (x.cf g)=true:=by
 simp[Delivery.cf,F_,AV.bnd,Mt]
def Delivery.c_bnd(k:Nat)(x:Delivery):F_ k x.c=true:=PI k x none
def V4(x:Delivery)(g:Option Nat):(x.cf g)[0]? =some (.int .i64 x.tenant)/\(x.cf g)[11]? =some (.sl g (Gi x.chain)):=⟨rfl,rfl⟩
def OO(x:Delivery)(v:Int)(g:Option Nat):G8 (x.cf g) [.int .i64 v]=({ x with tenant:=v }:Delivery).cf g:=rfl
def PZ(x:Delivery)(g:Option Nat):((x.cf g).drop 1).take 10=x.head.c:=rfl
def QZ(x:Delivery)(v:Head)(g:Option Nat):splice (x.cf g) 1 v.c=({ x with head:=v }:Delivery).cf g:=rfl
def PY(x:Delivery)(v:List Int)(g:Option Nat)(p:Option Nat):splice (x.cf g) 11 [.sl p (Gi v)]=({ x with chain:=v }:Delivery).cf p:=rfl
def Delivery.z:Delivery:=⟨0,⟨0,0,0,0,0,0,0,0,0,0⟩,[]⟩
def Delivery.zero:F8 AA 76=some (.agg (Delivery.z.cf (some 1))):=kr
def Delivery.ok(_:Delivery):Prop:=True
@[ext] structure Arrival where
 head:Head
 tick:Int
 deriving DecidableEq,Inhabited
def Arrival.c(x:Arrival):List AV:=[.int .i64 x.head.h0,.int .i64 x.head.h1,.int .i64 x.head.h2,.int .i64 x.head.h3,.int .i64 x.head.h4,.int .i64 x.head.h5,.int .i64 x.head.h6,.int .i64 x.head.h7,.int .i64 x.head.h8,.int .i64 x.head.h9,.int .i64 x.tick]
def nX(x:Arrival):1<=Fo x.c:=by
 have g:1<=(.int .i64 x.head.h0:AV).bulk:=by simp[AV.bulk]
 exact AJ g (GK (AB (i:=0) rfl))
def Y0(x:Arrival):x.c.length=11:=rfl
def Y1(x:Arrival):x.c.map borrow1=x.c:=rfl
def Yz(x:Arrival):x.c.any GY=false:=by
 rfl
def V'(x:Arrival):x.c.take 11=x.c:=rfl
def Arrival.cf_pure(x:Arrival):Fq x.c=true:=by
 simp[Arrival.c,Fq,AV.pure]
def Y3(x:Arrival):Fq x.c=true:=x.cf_pure
def Qb(k:Nat)(x:Arrival):F_ k x.c=true:=by
 simp[Arrival.c,F_,AV.bnd]
def Arrival.c_bnd(k:Nat)(x:Arrival):F_ k x.c=true:=Qb k x
def Y2(x:Arrival):x.c[9]? =some (.int .i64 x.head.h9)/\x.c[10]? =some (.int .i64 x.tick):=⟨rfl,rfl⟩
def Qa(x:Arrival):x.c.take 10=x.head.c:=rfl
def Arrival.z:Arrival:=⟨⟨0,0,0,0,0,0,0,0,0,0⟩,0⟩
def Arrival.zero:F8 AA 43=some (.agg Arrival.z.c):=kr
def Arrival.ok(_:Arrival):Prop:=True
def Arrival.rd{a:AV}(h:Rd AA 43 a): ∃x:Arrival,a = .agg x.c/\x.ok:=by
 obtain⟨r,rfl,g⟩:=GZ (ts:=[41,3]) kr h;obtain⟨t,C,rfl,i,j⟩:=IT g;obtain⟨o,rfl,I⟩:=Head.rd i;obtain⟨p,rfl,J⟩:=L1 j;exact⟨⟨o,p⟩,rfl,trivial⟩
def F5(l:List Delivery):List AV:=l.map λx => .agg x.c
def Lg(l:List Delivery):(F5 l).length=l.length:=by simp[F5]
def RW{l:List Delivery}{i:Nat}{x:Delivery}(h:l[i]? =some x):(F5 l)[i]? =some (.agg x.c):=by simp[F5,h]
def ZR:F5 []=[]:=rfl
def XY(a:List Delivery)(x:Delivery):F5 a++[.agg x.c]=F5 (a++[x]):=by simp[F5]
def Ks(l:List Delivery):Fq (F5 l)=true:=by
 induction l with
 |nil=>rfl
 |cons x i g=>simpa [F5,Fq,AV.pure]using⟨V5 x,g⟩
def NQ(k:Nat)(l:List Delivery):F_ k (F5 l)=true:=Hv λx=>Delivery.c_bnd k x
@[ext] structure Outcome where
 e:Int
 l:List Delivery
 deriving DecidableEq,Inhabited
def Outcome.cf(x:Outcome)(g:Option Nat):List AV:=[.int .i64 x.e,.sl g (F5 x.l)]
abbrev Outcome.c(x:Outcome):List AV:=x.cf none
def Yg(x:Outcome)(g:Option Nat):(x.cf g).length=2:=rfl
def Yh(x:Outcome)(g:Option Nat):(x.cf g).map borrow1=x.cf none:=rfl
def Yf(x:Outcome)(g:Option Nat):(x.cf g).any GY=(g.isSome):=by
 cases g<;>rfl
def Outcome.cf_pure(x:Outcome)(g:Option Nat):Fq (x.cf g)=true:=by
 simp[Outcome.cf,Fq,AV.pure,Ks]
def Yj(x:Outcome):Fq x.c=true:=x.cf_pure none
def QV(k:Nat)(x:Outcome)(g:Option Nat):F_ k (x.cf g)=true:=by
 simp[Outcome.cf,F_,AV.bnd,NQ]
def Outcome.c_bnd(k:Nat)(x:Outcome):F_ k x.c=true:=QV k x none
def Yi(x:Outcome)(g:Option Nat):(x.cf g)[0]? =some (.int .i64 x.e)/\(x.cf g)[1]? =some (.sl g (F5 x.l)):=⟨rfl,rfl⟩
def Tf(x:Outcome)(v:Int)(g:Option Nat):G8 (x.cf g) [.int .i64 v]=({ x with e:=v }:Outcome).cf g:=rfl
def Uu(x:Outcome)(v:List Delivery)(g:Option Nat)(p:Option Nat):splice (x.cf g) 1 [.sl p (F5 v)]=({ x with l:=v }:Outcome).cf p:=rfl
def Outcome.z:Outcome:=⟨0,[]⟩
def Outcome.zero:F8 AA 114=some (.agg (Outcome.z.cf (some 12))):=kr
def Outcome.ok(_:Outcome):Prop:=True
def Fs(l:List Entry):List AV:=l.map λx => .agg x.c
def HK(l:List Entry):(Fs l).length=l.length:=by simp[Fs]
def Fz{l:List Entry}{i:Nat}{x:Entry}(h:l[i]? =some x):(Fs l)[i]? =some (.agg x.c):=by simp[Fs,h]
def Ol{l:List Entry}{x:Entry}(h:x∈l): .agg x.c∈Fs l:=by rw[Fs];exact AN.2 ⟨x,h,rfl⟩
def dB(l:List Entry): ∀x∈Fs l,x.cells.length=4:=by
 intro x hx;obtain⟨y,_,rfl⟩:=AN.1 hx;rfl
def ZQ(l:List Entry):(∀x∈Fs l,x.cells.length=4)=True:=eq_true (dB l)
def pq:Fs []=[]:=rfl
def dA(l:List Entry)(k:Nat):(Fs l).take k=Fs (l.take k):=by simp[Fs]
def kA(a:List Entry)(x:Entry):Fs a++[.agg x.c]=Fs (a++[x]):=by simp[Fs]
def Ij(l:List Entry):Fq (Fs l)=true:=by
 induction l with
 |nil=>rfl
 |cons x i g=>simpa [Fs,Fq,AV.pure]using⟨Tk x,g⟩
def Mu(k:Nat)(l:List Entry):F_ k (Fs l)=true:=Hv λx=>Entry.c_bnd k x
def wX{l:List Entry}{B:Nat}(h:Fo (Fs l)<=B){x:Entry}(hx:x∈l):(.agg x.c:AV).bulk<=B:=AJ (GK (Ol hx)) h
def wW{l:List Entry}{B:Nat}(h:Fo (Fs l)<=B):l.length<=B:=by
 refine AJ ?_ h;exact Hr (f:=λ(x:Entry) => .agg x.c) (λx=>by exact ABi x) l
def Qo(l:List Entry):Prop:=l.length*56<=reachBytes /\ ∀x∈l,x.ok
def Ls{a:AV}(h:Rd AA 98 a): ∃l,a = .sl none (Fs l)/\Qo l:=by
 obtain⟨l,i,g,h3⟩:=IU (f:=λ(x:Entry) => .agg x.c) (ok:=λ(x:Entry)=>x.ok) (P:=AA) (t:=98) (e:=159) kr (λx hx=>Entry.rd hx) h;exact⟨l,i,by rw[show AA.bytesOf 159=56 by kernel_rfl]at g;exact g,h3⟩
@[ext] structure Doing where
 fields:List Fld
 step:Stp
 st:List Entry
 head:Head
 tick:Int
 entry:Entry
 is:Bool
 deriving DecidableEq,Inhabited
def Doing.cf(x:Doing)(g i j o:Option Nat):List AV:=[.sl g (Gf x.fields),.int .i64 x.step.kind,.str x.step.var,.sl i (Ha x.step.key),.str x.step.field,.int .i64 x.step.n,.int .i64 x.step.m,.sl j (Fs x.st),.int .i64 x.head.h0,.int .i64 x.head.h1,.int .i64 x.head.h2,.int .i64 x.head.h3,.int .i64 x.head.h4,.int .i64 x.head.h5,.int .i64 x.head.h6,.int .i64 x.head.h7,.int .i64 x.head.h8,.int .i64 x.head.h9,.int .i64 x.tick,.str x.entry.var,.sl o (Gi x.entry.key),.int .i64 x.entry.n,.int .i64 x.entry.at_,.bool x.is]
abbrev Doing.c(x:Doing):List AV:=x.cf none none none none
def gG(x:Doing)(g i j o:Option Nat):(x.cf g i j o).length=24:=rfl
def gH(x:Doing)(g i j o:Option Nat):(x.cf g i j o).map borrow1=x.cf none none none none:=rfl
def gF(x:Doing)(g i j o:Option Nat):(x.cf g i j o).any GY=(g.isSome||i.isSome||j.isSome||o.isSome):=by
 cases g<;>cases i<;>cases j<;>cases o<;>rfl
def Doing.cf_pure(x:Doing)(g i j o:Option Nat):Fq (x.cf g i j o)=true:=by
 simp[Doing.cf,Fq,AV.pure,Ij,UO,JJ,Qm]
def To(k:Nat)(x:Doing)(g i j o:Option Nat):F_ k (x.cf g i j o)=true:=by
 simp[Doing.cf,F_,AV.bnd,Mu,XW,Mt,Sx]
def Doing.c_bnd(k:Nat)(x:Doing):F_ k x.c=true:=To k x none none none none
def gI(x:Doing)(g i j o:Option Nat):(x.cf g i j o)[0]? =some (.sl g (Gf x.fields))/\(x.cf g i j o)[2]? =some (.str x.step.var)/\(x.cf g i j o)[3]? =some (.sl i (Ha x.step.key))/\(x.cf g i j o)[4]? =some (.str x.step.field)/\(x.cf g i j o)[5]? =some (.int .i64 x.step.n)/\(x.cf g i j o)[6]? =some (.int .i64 x.step.m)/\(x.cf g i j o)[7]? =some (.sl j (Fs x.st))/\(x.cf g i j o)[18]? =some (.int .i64 x.tick)/\(x.cf g i j o)[21]? =some (.int .i64 x.entry.n)/\(x.cf g i j o)[22]? =some (.int .i64 x.entry.at_)/\(x.cf g i j o)[23]? =some (.bool x.is):=⟨rfl,rfl,rfl,rfl,rfl,rfl,rfl,rfl,rfl,rfl,rfl⟩
def QY(x:Doing)(v:List Fld)(o g i j:Option Nat)(p:Option Nat):G8 (x.cf o g i j) [.sl p (Gf v)]=({ x with fields:=v }:Doing).cf p g i j:=rfl
def Sd(x:Doing)(i g j o:Option Nat):((x.cf i g j o).drop 1).take 6=x.step.cf g:=rfl
def Tm(x:Doing)(v:Stp)(g p i j:Option Nat)(o:Option Nat):splice (x.cf g p i j) 1 (v.cf o)=({ x with step:=v }:Doing).cf g o i j:=rfl
def Vz(x:Doing)(v:List Entry)(g i o j:Option Nat)(p:Option Nat):splice (x.cf g i o j) 7 [.sl p (Fs v)]=({ x with st:=v }:Doing).cf g i p j:=rfl
def Se(x:Doing)(g i j o:Option Nat):((x.cf g i j o).drop 8).take 10=x.head.c:=rfl
def Tn(x:Doing)(v:Head)(g i j o:Option Nat):splice (x.cf g i j o) 8 v.c=({ x with head:=v }:Doing).cf g i j o:=rfl
def Tl(x:Doing)(v:Int)(g i j o:Option Nat):splice (x.cf g i j o) 18 [.int .i64 v]=({ x with tick:=v }:Doing).cf g i j o:=rfl
def RK(x:Doing)(i j o g:Option Nat):((x.cf i j o g).drop 19).take 4=x.entry.cf g:=rfl
def Sc(x:Doing)(v:Entry)(g i j p:Option Nat)(o:Option Nat):splice (x.cf g i j p) 19 (v.cf o)=({ x with entry:=v }:Doing).cf g i j o:=rfl
def QX(x:Doing)(v:Int)(g i j o:Option Nat):splice (x.cf g i j o) 21 [.int .i64 v]=({ x with entry:={ x.entry with n:=v } }:Doing).cf g i j o:=rfl
def O'(x:Doing)(v:Int)(g i j o:Option Nat):splice (x.cf g i j o) 22 [.int .i64 v]=({ x with entry:={ x.entry with at_:=v } }:Doing).cf g i j o:=rfl
def V0(x:Doing)(v:Bool)(g i j o:Option Nat):splice (x.cf g i j o) 23 [.bool v]=({ x with is:=v }:Doing).cf g i j o:=rfl
def Doing.z:Doing:=⟨[],⟨0,.empty,[],.empty,0,0⟩,[],⟨0,0,0,0,0,0,0,0,0,0⟩,0,⟨.empty,[],0,0⟩,false⟩
def Doing.zero:F8 AA 220=some (.agg (Doing.z.cf (some 3) (some 1) (some 4) (some 1))):=kr
def Doing.ok(_:Doing):Prop:=True
@[ext] structure Item where
 tenant:Int
 head:Head
 chain:List Int
 deriving DecidableEq,Inhabited
def Item.cf(x:Item)(g:Option Nat):List AV:=[.int .i64 x.tenant,.int .i64 x.head.h0,.int .i64 x.head.h1,.int .i64 x.head.h2,.int .i64 x.head.h3,.int .i64 x.head.h4,.int .i64 x.head.h5,.int .i64 x.head.h6,.int .i64 x.head.h7,.int .i64 x.head.h8,.int .i64 x.head.h9,.sl g (Gi x.chain)]
abbrev Item.c(x:Item):List AV:=x.cf none
def nI(x:Item)(g:Option Nat):(x.cf g).length=12:=rfl
def nJ(x:Item)(g:Option Nat):(x.cf g).map borrow1=x.cf none:=rfl
def nH(x:Item)(g:Option Nat):(x.cf g).any GY=(g.isSome):=by
 cases g<;>rfl
def ft(x:Item)(g:Option Nat):(x.cf g).take 12=x.cf g:=rfl
def Item.cf_pure(x:Item)(g:Option Nat):Fq (x.cf g)=true:=by
 simp[Item.cf,Fq,AV.pure,JJ]
def VY(k:Nat)(x:Item)(g:Option Nat):F_ k (x.cf g)=true:=by
 simp[Item.cf,F_,AV.bnd,Mt]
def Item.c_bnd(k:Nat)(x:Item):F_ k x.c=true:=VY k x none
def nK(x:Item)(g:Option Nat):(x.cf g)[0]? =some (.int .i64 x.tenant):=rfl
def RJ(x:Item)(v:Int)(g:Option Nat):G8 (x.cf g) [.int .i64 v]=({ x with tenant:=v }:Item).cf g:=rfl
def Th(x:Item)(g:Option Nat):((x.cf g).drop 1).take 10=x.head.c:=rfl
def Uw(x:Item)(v:Head)(g:Option Nat):splice (x.cf g) 1 v.c=({ x with head:=v }:Item).cf g:=rfl
def Tg(x:Item)(v:List Int)(g:Option Nat)(p:Option Nat):splice (x.cf g) 11 [.sl p (Gi v)]=({ x with chain:=v }:Item).cf p:=rfl
def Item.z:Item:=⟨0,⟨0,0,0,0,0,0,0,0,0,0⟩,[]⟩
def Item.zero:F8 AA 85=some (.agg (Item.z.cf (some 1))):=kr
def Item.ok(_:Item):Prop:=True
@[ext] structure Done17 where
 h:Head
 pass:Bool
 st:List Entry
 deriving DecidableEq,Inhabited
def Done17.cf(x:Done17)(g:Option Nat):List AV:=[.int .i64 x.h.h0,.int .i64 x.h.h1,.int .i64 x.h.h2,.int .i64 x.h.h3,.int .i64 x.h.h4,.int .i64 x.h.h5,.int .i64 x.h.h6,.int .i64 x.h.h7,.int .i64 x.h.h8,.int .i64 x.h.h9,.bool x.pass,.sl g (Fs x.st)]
abbrev Done17.c(x:Done17):List AV:=x.cf none
def Z9(x:Done17)(g:Option Nat):(x.cf g).length=12:=rfl
def Z_(x:Done17)(g:Option Nat):(x.cf g).map borrow1=x.cf none:=rfl
def Z8(x:Done17)(g:Option Nat):(x.cf g).any GY=(g.isSome):=by
 cases g<;>rfl
def Yv(x:Done17)(g:Option Nat):(x.cf g).take 12=x.cf g:=rfl
def Done17.cf_pure(x:Done17)(g:Option Nat):Fq (x.cf g)=true:=by
 simp[Done17.cf,Fq,AV.pure,Ij]
def Rj(k:Nat)(x:Done17)(g:Option Nat):F_ k (x.cf g)=true:=by
 simp[Done17.cf,F_,AV.bnd,Mu]
def Done17.c_bnd(k:Nat)(x:Done17):F_ k x.c=true:=Rj k x none
def Yx(x:Done17)(g:Option Nat):(x.cf g)[10]? =some (.bool x.pass):=rfl
def Yw(x:Done17)(g:Option Nat):(x.cf g)[11]? =some (.sl g (Fs x.st)):=rfl
def Uz(x:Done17)(g:Option Nat):(x.cf g).take 10=x.h.c:=rfl
def Done17.z:Done17:=⟨⟨0,0,0,0,0,0,0,0,0,0⟩,false,[]⟩
def Done17.zero:F8 AA 156=some (.agg (Done17.z.cf (some 4))):=kr
def Done17.ok(_:Done17):Prop:=True
def F2(l:List Head):List AV:=l.map λx => .agg x.c
def Nz(l:List Head):(F2 l).length=l.length:=by simp[F2]
def GG{l:List Head}{i:Nat}{x:Head}(h:l[i]? =some x):(F2 l)[i]? =some (.agg x.c):=by simp[F2,h]
def j'(l:List Head): ∀x∈F2 l,x.cells.length=10:=by
 intro x hx;obtain⟨y,_,rfl⟩:=AN.1 hx;rfl
def c_(l:List Head):(∀x∈F2 l,x.cells.length=10)=True:=eq_true (j' l)
def wT:F2 []=[]:=rfl
def jz(l:List Head)(k:Nat):(F2 l).take k=F2 (l.take k):=by simp[F2]
def j_(l:List Head)(k:Nat):(F2 l).drop k=F2 (l.drop k):=by simp[F2]
def wV(a b:List Head):F2 a++F2 b=F2 (a++b):=by simp[F2]
def pp(a:List Head)(x:Head):F2 a++[.agg x.c]=F2 (a++[x]):=by simp[F2]
def R6(l:List Head):Fq (F2 l)=true:=by
 induction l with
 |nil=>rfl
 |cons x i g=>simpa [F2,Fq,AV.pure]using⟨nP x,g⟩
def ax(k:Nat)(l:List Head):F_ k (F2 l)=true:=Hv λx=>Head.c_bnd k x
@[ext] structure Ran17 where
 l:List Head
 st:List Entry
 e:Int
 deriving DecidableEq,Inhabited
def Ran17.cf(x:Ran17)(g i:Option Nat):List AV:=[.sl g (F2 x.l),.sl i (Fs x.st),.int .i64 x.e]
abbrev Ran17.c(x:Ran17):List AV:=x.cf none none
def fV(x:Ran17)(g i:Option Nat):(x.cf g i).length=3:=rfl
def fX(x:Ran17)(g i:Option Nat):(x.cf g i).map borrow1=x.cf none none:=rfl
def fU(x:Ran17)(g i:Option Nat):(x.cf g i).any GY=(g.isSome||i.isSome):=by
 cases g<;>cases i<;>rfl
def Zx(x:Ran17)(g i:Option Nat):(x.cf g i).take 3=x.cf g i:=rfl
def Ran17.cf_pure(x:Ran17)(g i:Option Nat):Fq (x.cf g i)=true:=by
 simp[Ran17.cf,Fq,AV.pure,Ij,R6]
def Te(k:Nat)(x:Ran17)(g i:Option Nat):F_ k (x.cf g i)=true:=by
 simp[Ran17.cf,F_,AV.bnd,Mu,ax]
def Ran17.c_bnd(k:Nat)(x:Ran17):F_ k x.c=true:=Te k x none none
def fc(x:Ran17)(g i:Option Nat):(x.cf g i)[0]? =some (.sl g (F2 x.l)):=rfl
def fZ(x:Ran17)(i g:Option Nat):(x.cf i g)[1]? =some (.sl g (Fs x.st)):=rfl
def fY(x:Ran17)(g i:Option Nat):(x.cf g i)[2]? =some (.int .i64 x.e):=rfl
def Ran17.z:Ran17:=⟨[],[],0⟩
def Ran17.zero:F8 AA 110=some (.agg (Ran17.z.cf (some 10) (some 4))):=kr
def Ran17.ok(_:Ran17):Prop:=True
def Qn(l:List (List Entry)):List AV:=l.map λx => .sl none (Fs x)
def Sy(l:List (List Entry)):Fq (Qn l)=true:=by
 induction l with
 |nil=>rfl
 |cons x i g=>simpa [Qn,Fq,AV.pure]using⟨Ij x,g⟩
def VI(k:Nat)(l:List (List Entry)):F_ k (Qn l)=true:=Hv λx=>Mu k x
@[ext] structure Ran19 where
 l:List Delivery
 sts:List (List Entry)
 e:Int
 deriving DecidableEq,Inhabited
def Ran19.cf(x:Ran19)(g i:Option Nat):List AV:=[.sl g (F5 x.l),.sl i (Qn x.sts),.int .i64 x.e]
abbrev Ran19.c(x:Ran19):List AV:=x.cf none none
def fN(x:Ran19)(g i:Option Nat):(x.cf g i).length=3:=rfl
def fP(x:Ran19)(g i:Option Nat):(x.cf g i).map borrow1=x.cf none none:=rfl
def fM(x:Ran19)(g i:Option Nat):(x.cf g i).any GY=(g.isSome||i.isSome):=by
 cases g<;>cases i<;>rfl
def Zw(x:Ran19)(g i:Option Nat):(x.cf g i).take 3=x.cf g i:=rfl
def Ran19.cf_pure(x:Ran19)(g i:Option Nat):Fq (x.cf g i)=true:=by
 simp[Ran19.cf,Fq,AV.pure,Ks,Sy]
def Td(k:Nat)(x:Ran19)(g i:Option Nat):F_ k (x.cf g i)=true:=by
 simp[Ran19.cf,F_,AV.bnd,NQ,VI]
def Ran19.c_bnd(k:Nat)(x:Ran19):F_ k x.c=true:=Td k x none none
def fT(x:Ran19)(g i:Option Nat):(x.cf g i)[0]? =some (.sl g (F5 x.l)):=rfl
def fR(x:Ran19)(i g:Option Nat):(x.cf i g)[1]? =some (.sl g (Qn x.sts)):=rfl
def fQ(x:Ran19)(g i:Option Nat):(x.cf g i)[2]? =some (.int .i64 x.e):=rfl
def Ran19.z:Ran19:=⟨[],[],0⟩
def Ran19.zero:F8 AA 45=some (.agg (Ran19.z.cf (some 12) (some 1))):=kr
def Ran19.ok(_:Ran19):Prop:=True
@[ext] structure Item19 where
 tenant:Int
 head:Head
 chain:List Int
 deriving DecidableEq,Inhabited
def Item19.cf(x:Item19)(g:Option Nat):List AV:=[.int .i64 x.tenant,.int .i64 x.head.h0,.int .i64 x.head.h1,.int .i64 x.head.h2,.int .i64 x.head.h3,.int .i64 x.head.h4,.int .i64 x.head.h5,.int .i64 x.head.h6,.int .i64 x.head.h7,.int .i64 x.head.h8,.int .i64 x.head.h9,.sl g (Gi x.chain)]
abbrev Item19.c(x:Item19):List AV:=x.cf none
def Z4(x:Item19)(g:Option Nat):(x.cf g).length=12:=rfl
def Z5(x:Item19)(g:Option Nat):(x.cf g).map borrow1=x.cf none:=rfl
def Z3(x:Item19)(g:Option Nat):(x.cf g).any GY=(g.isSome):=by
 cases g<;>rfl
def Yo(x:Item19)(g:Option Nat):(x.cf g).take 12=x.cf g:=rfl
def Item19.cf_pure(x:Item19)(g:Option Nat):Fq (x.cf g)=true:=by
 simp[Item19.cf,Fq,AV.pure,JJ]
def Ri(k:Nat)(x:Item19)(g:Option Nat):F_ k (x.cf g)=true:=by
 simp[Item19.cf,F_,AV.bnd,Mt]
def Item19.c_bnd(k:Nat)(x:Item19):F_ k x.c=true:=Ri k x none
def Z6(x:Item19)(g:Option Nat):(x.cf g)[0]? =some (.int .i64 x.tenant):=rfl
def Yp(x:Item19)(g:Option Nat):(x.cf g)[11]? =some (.sl g (Gi x.chain)):=rfl
def PX(x:Item19)(v:Int)(g:Option Nat):G8 (x.cf g) [.int .i64 v]=({ x with tenant:=v }:Item19).cf g:=rfl
def RI(x:Item19)(g:Option Nat):((x.cf g).drop 1).take 10=x.head.c:=rfl
def SZ(x:Item19)(v:Head)(g:Option Nat):splice (x.cf g) 1 v.c=({ x with head:=v }:Item19).cf g:=rfl
def PW(x:Item19)(v:Int)(g:Option Nat):splice (x.cf g) 1 [.int .i64 v]=({ x with head:={ x.head with h0:=v } }:Item19).cf g:=rfl
def RH(x:Item19)(v:List Int)(g:Option Nat)(p:Option Nat):splice (x.cf g) 11 [.sl p (Gi v)]=({ x with chain:=v }:Item19).cf p:=rfl
def Item19.z:Item19:=⟨0,⟨0,0,0,0,0,0,0,0,0,0⟩,[]⟩
def Item19.zero:F8 AA 107=some (.agg (Item19.z.cf (some 1))):=kr
def Item19.ok(_:Item19):Prop:=True
attribute [go_sem] nM nN nL fu Head.cf_pure VZ nO Vy Ys Yr Head.zero AGc AGb sR sT sQ nQ Fld.cf_pure Yt sU Fld.zero ml mo mj ff Port.cf_pure VT mq Port.zero mT mU mS eM Wire.cf_pure VR mV Wire.zero KO LK Nv cz wL jo jq wM mg mh mf fe Pred.cf_pure VS mi Pred.zero Ok Px VH XT ju ZN ZO jv Z0 Z1 Zz Yd Policy.cf_pure Rh Z2 RG Policy.zero Pw R1 XP fE fF fD Zt Regex.cf_pure Tb fH Regex.zero Ko jl AD0 pY wE Qm Sx r7 r8 r6 mZ Stp.cf_pure Yb r9 Stp.zero eV eY eU Zo Stage.cf_pure TW eZ QP QO ST TV Stage.zero e_ fA e9 Route.cf_pure Ta SV SW aA aB Z' Yy Demand.cf_pure Rk aD Demand.zero au XS aw wB XI aq Ms ZM pg VD XL XM VF XN kC S1 VJ Zk Zl Zj YZ Tenant.cf_pure Re Zm Tenant.zero m6 m7 m5 fj Node.cf_pure VW m8 Node.zero nC nD m_ fm Link.cf_pure VX nE Link.zero nT nU nS Edge.cf_pure Va nV wP R4 UL wQ R5 UN wZ R7 UP Yl Ym Yk Vx Network.cf_pure QW Yn V7 V8 V6 U0 Contract.cf_pure PJ V9 Pa Contract.zero Sz UO XW ND Sw VC NR P0 RX ey ez eu Zq Setup.cf_pure TZ e7 PV Setup.zero Ho jy po wS JJ Mt Vt Vu Vs Uq Variable.cf_pure PF Vv Variable.zero eh ei ef Zp Sizes.cf_pure TX ej RE SU Sizes.zero fy f_ fw Z7 Entry.cf_pure Tj gC Ti Ux Yu Uy Entry.zero V2 V3 V1 Delivery.cf_pure PI V4 OO PZ QZ PY Delivery.zero Y0 Y1 Yz V' Arrival.cf_pure Qb Y2 Qa Arrival.zero Lg ZR XY Ks NQ Yg Yh Yf Outcome.cf_pure QV Yi Tf Uu Outcome.zero HK ZQ pq dA kA Ij Mu gG gH gF Doing.cf_pure To gI QY Sd Tm Vz Se Tn Tl RK Sc QX O' V0 Doing.zero nI nJ nH ft Item.cf_pure VY nK RJ Th Uw Tg Item.zero Z9 Z_ Z8 Yv Done17.cf_pure Rj Yx Yw Uz Done17.zero Nz c_ wT jz j_ wV pp R6 ax fV fX fU Zx Ran17.cf_pure Te fc fZ fY Ran17.zero Sy VI fN fP fM Zw Ran19.cf_pure Td fT fR fQ Ran19.zero Z4 Z5 Z3 Yo Item19.cf_pure Ri Z6 Yp PX RI SZ PW RH Item19.zero
end Go.AI
