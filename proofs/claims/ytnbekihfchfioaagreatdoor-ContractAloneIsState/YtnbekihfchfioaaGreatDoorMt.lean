/- Contract: checkPorts of the program. -/
import Derived.Test.YtnbekihfchfioaaGreatDoorMp
import Derived.Test.YtnbekihfchfioaaGreatDoorMe
import Derived.Test.YtnbekihfchfioaaGreatDoorMg
import Derived.Test.YtnbekihfchfioaaGreatDoorMf
set_option linter.unusedSimpArgs false
set_option linter.unusedVariables false
open Bool renaming and_eq_true->AR,eq_iff_iff->BA,not_eq_true->Da,or_eq_false_iff->CG,or_eq_true->CJ,true_and->Bz
open Int renaming toNat_natCast->Ae
open List renaming all_cons->Ak,all_eq_true->Ao,any_eq_false->Bk,any_eq_true->CZ,ext_getElem?->A4,find?_cons->B0,foldl_cons->CF,getElem?_eq_getElem->AL,getElem?_eq_none->Ax,getElem?_eq_some_iff->AD,getElem?_map->Ac,getElem?_set->A0,length_cons->AC,mem_append->Ay,mem_append_left->C8,mem_append_right->Dl,mem_cons->AZ,mem_cons_of_mem->B9,mem_map->AO,mem_singleton->Al,pairwise_cons->Bi
open Nat renaming add_comm->CE,and_le_left->DI,and_lt_two_pow->Di,and_two_pow_sub_one_eq_mod->EJ,eq_of_testBit_eq->EH,lt_of_le_of_lt->CX,lt_of_lt_of_le->BR,min_eq_left->B7,mod_eq_of_lt->Bv,mul_lt_mul_of_pos_right->EE,or_lt_two_pow->ED,pow_le_pow_right->Bb,shiftLeft_eq->Dj,testBit_and->Cs,testBit_div_two_pow->Ct,testBit_lt_two_pow->EI,testBit_shiftLeft->DJ,testBit_two_pow_sub_one->EG,testBit_xor->Dk,two_pow_pos->Ba,xor_lt_two_pow->Ca
open Go.Proofs.Tryz renaming prog->AA
namespace Go.AI
open Go.Proofs
set_option maxRecDepth 50000
@[go_sem] theorem AaP:EW AA 134=some .nilm/\Tryz.prog.underlying 134=some (.map 3 4):=⟨kr,kr⟩
abbrev Il(n:Int):AV:=.int .i64 n
theorem ZL{k:AV}: ∀ {es:List (AV×AV)} {i j:Nat} {v:AV},Hx k es i=some (j,v)->i<=j /\ ∃ p,es[j - i]? =some p/\GU p.1 k=true/\p.2=v
 | [],_,_,_,h=>by cases h
 | p::es,i,j,v,h=>by
  rw [Hx] at h
  by_cases hk:GU p.1 k=true
  ·rw [if_pos hk] at h
   cases h
   exact ⟨Nat.le_refl _,p,sm,hk,rfl⟩
  ·rw [if_neg hk] at h
   obtain ⟨h1,q,h2,h3,h4⟩:=ZL h
   refine ⟨DF,q, ?_,h3,h4⟩
   have:j - i=(j - (i+1))+1:=DF
   rw [this];simpa using h2
theorem rI(z n:Int):GU (Il z) (Il n)=(z==n):=by
 rw [BA];simp [GU,Mi]
theorem rz(l:List Int)(n:Int):(l.any λy=>GU (Il y) (Il n))=l.any λz=>z==n:=by
 simp only [rI]
theorem w6(l:List Int)(n:Int):LW (KV Il l) (Il n) (.bool true)=KV Il (if l.any (λz=>z==n) then l else l++[n]):=by
 by_cases h:(l.any λz=>z==n)=true
 ·rw [if_pos h]
  have h2:=Ov Il (Il n) l 0
  rw [rz,if_pos h] at h2
  unfold LW
  cases ha:Hx (Il n) (KV Il l) 0 with
  | none=>rw [ha] at h2;cases h2
  | some q =>
   obtain ⟨j,v⟩:=q
   obtain ⟨_,p,hp,hk,hv⟩:=ZL ha
   dsimp only
   rw [Nat.sub_zero] at hp
   have hp2:=hp
   rw [KV,Ac] at hp2
   cases hl:l[j]? with
   | none=>rw [hl] at hp2;cases hp2
   | some z =>
    rw [hl] at hp2
    cases hp2
    rw [rI] at hk
    have hz:z=n:=by simpa using hk
    subst hz
    apply A4
    intro m
    rw [A0]
    split
    ·rename_i hjm
     subst hjm
     rw [hp]
     have:=(AD.1 hp).1
     rw [if_pos this]
    ·rfl
 ·rw [if_neg h]
  exact ACY Il n l (by rw [rz];exact (Da _).mp h)
theorem sU {P:Program} {K:Kt} {e:Ee} {H:DM} {t kt et:TypeId} {o:Nat} (l:List Int) (n:Int) (hu:P.underlying t=some (.map kt et)) (hm:H[o]? =some (some (It (KV Il l)))) (hk:LY P kt (Il n::l.map Il)) (hd:Q4 Il l)
  (h:K e (H.set o (some (It (KV Il (if l.any (λz=>z==n) then l else l++[n])))))):AFr P t (.mapr o) (Il n) (.bool true) K e H:=by
 unfold AFr
 dsimp only
 rw [hu]
 dsimp only
 rw [ey hm]
 dsimp only
 refine ⟨by rw [dH];exact hk,V2 Il hd,rfl, ?_⟩
 rw [w6];exact h
theorem AAT{l:List Int}(n:Int)(hd:Q4 Il l):Q4 Il (if l.any (λz=>z==n) then l else l++[n]):=by
 split
 ·exact hd
 ·rename_i h
  exact V3 Il n hd (by rw [rz];exact (Da _).mp h)
structure VE where
 v:Variable
 b:Bool
def W4(l:List Fld)(s:Stp):Variable:=⟨s.var,KY s.kind,Hh l s.key,if Ks s then s.n else 0,if Ks s then s.m else 0⟩
def M9(E:List VE)(nm:ByteArray):Option VE:=E.find? λe=>decide (e.v.name=nm)
def sL:List VE->VE->List VE
 | [],x=>[x]
 | e::E,x=>if e.v.name=x.v.name then x::E else e::sL E x
def lB(l:List Fld)(e:VE)(s:Stp):Bool:=e.v.family !=KY s.kind||(!Xe e.v.widths (Hh l s.key)||(Ks s&&(e.b&&(e.v.n !=s.n||e.v.m !=s.m))))
def Sr(l:List Fld)(E:List VE)(s:Stp):Option (List VE) :=
 if s.kind=0 then some E else match M9 E s.var with
  | none=>some (sL E ⟨W4 l s,Ks s⟩)
  | some e=>if lB l e s then none else if Ks s then some (sL E ⟨W4 l s,true⟩) else some E
def vGo(l:List Fld):List VE->List Stage->Option (List VE)
 | E,[]=>some E
 | E,x::r=>match Sr l E x.step with
  | none=>none
  | some E'=>vGo l E' r
theorem JK(x:VE)(nm:ByteArray): ∀ E:List VE,M9 (sL E x) nm=if x.v.name=nm then some x else M9 E nm
 | []=>by
  unfold sL M9
  by_cases h:x.v.name=nm<;>simp [h]
 | e::E=>by
  have ih:=JK x nm E
  unfold sL
  by_cases h:e.v.name=x.v.name
  ·rw [if_pos h]
   unfold M9
   by_cases h2:x.v.name=nm
   ·simp [h2]
   ·simp [h2,h]
  ·rw [if_neg h]
   unfold M9 at ih ⊢
   rw [B0,B0]
   by_cases h2:e.v.name=nm
   ·have : ¬ x.v.name=nm:=λh3=>h (h2.trans h3.symm)
    simp [h2,this]
   ·simp only [h2,decide_false]
    exact ih
structure VInv (l:List Fld) (E:List VE) (p:List Stage):Prop where
 src : ∀ nm e,M9 E nm=some e -> ∃ x∈p,x.step.kind≠0/\x.step.var=nm
 fits : ∀ x∈p,x.step.kind≠0 -> ∃ e,M9 E x.step.var=some e/\e.v.family=KY x.step.kind/\e.v.widths=Hh l x.step.key/\(Ks x.step=true->e.b=true/\e.v.n=x.step.n/\e.v.m=x.step.m)
 num : ∀ nm e,M9 E nm=some e->e.b=true -> ∃ x∈p,x.step.kind≠0/\x.step.var=nm/\Ks x.step=true
theorem VInv.nil(l:List Fld):VInv l [] []:=⟨λ_ _ h=>(by cases h),λ_ h=>(by cases h),λ_ _ h=>(by cases h)⟩
theorem wz{l:List Fld}{E:List VE}{p:List Stage}(h:VInv l E p){s:Stp}(hk:s.kind≠0):
  p.any (λy=>KQ l y.step s)=match M9 E s.var with|none=>false|some e=>lB l e s:=by
 cases hf:M9 E s.var with
 | none =>
  dsimp only
  rw [Bk]
  intro y hy hc
  unfold KQ at hc
  simp only [AR,bne_iff_ne,ne_eq,decide_eq_true_eq] at hc
  obtain ⟨e,he,_⟩:=h.fits y hy hc.1.1
  rw [hc.2.1,hf] at he
  cases he
 | some e =>
  dsimp only
  rw [BA,CZ]
  constructor
  ·rintro ⟨y,hy,hc⟩
   unfold KQ Tv at hc
   simp only [AR,bne_iff_ne,ne_eq,decide_eq_true_eq] at hc
   obtain ⟨⟨k1,k2⟩,hv,ha⟩:=hc
   obtain ⟨e',he,h1,h2,h3⟩:=h.fits y hy k1
   rw [hv,hf] at he
   cases he
   have ha':(Ks y.step=true/\Ks s=true/\(y.step.n≠s.n\/y.step.m≠s.m))\/Xe (Hh l y.step.key) (Hh l s.key)=false\/KY y.step.kind≠KY s.kind:=by
    generalize Xe (Hh l y.step.key) (Hh l s.key)=B at ha ⊢
    generalize KY y.step.kind=f1 at ha ⊢
    generalize KY s.kind=f2 at ha ⊢
    generalize Ks y.step=c1 at ha ⊢
    generalize Ks s=c2 at ha ⊢
    cases B<;>cases c1<;>cases c2<;>simp at ha ⊢
    all_goals first|exact ha|(rcases ha with ha|ha<;>grind)|grind
   unfold lB
   rw [h1,h2]
   rcases ha' with ⟨a1,a2,a3⟩|a|a
   ·obtain ⟨g1,g2,g3⟩:=h3 a1
    rw [g1,g2,g3,a2]
    rcases a3 with a3|a3<;>simp [a3]
   ·simp [a]
   ·simp [a]
  ·intro hb
   unfold lB at hb
   by_cases hn:Ks s=true/\e.b=true/\(e.v.n !=s.n||e.v.m !=s.m)=true
   ·obtain ⟨n1,n2,n3⟩:=hn
    obtain ⟨y,hy,k1,k2,k3⟩:=h.num _ e hf n2
    obtain ⟨e',he,h1,h2,h3⟩:=h.fits y hy k1
    rw [k2,hf] at he
    cases he
    obtain ⟨g1,g2,g3⟩:=h3 k3
    refine ⟨y,hy, ?_⟩
    unfold KQ Tv
    rw [n1,k3,<- g2,<- g3,n3]
    simp [k1,hk,k2]
   ·obtain ⟨y,hy,k1,k2⟩:=h.src _ e hf
    obtain ⟨e',he,h1,h2,h3⟩:=h.fits y hy k1
    rw [k2,hf] at he
    cases he
    refine ⟨y,hy, ?_⟩
    unfold KQ Tv
    rw [<- h1,<- h2]
    have hb2:(e.v.family !=KY s.kind || !Xe e.v.widths (Hh l s.key))=true:=by
     rw [CJ] at hb ⊢
     rcases hb with hb|hb
     ·exact .inl hb
     ·rw [CJ] at hb
      rcases hb with hb|hb
      ·exact .inr hb
      ·exfalso
       apply hn
       simp only [AR] at hb
       exact ⟨hb.1,hb.2.1,hb.2.2⟩
    have hb3:(Xe e.v.widths (Hh l s.key)&&e.v.family==KY s.kind)=false:=by
     generalize Xe e.v.widths (Hh l s.key)=B at hb2 ⊢
     cases B
     ·rfl
     ·simp only [Bool.not_true,Bool.or_false] at hb2
      simpa using hb2
    rw [hb3]
    simp [k1,hk,k2]
theorem VInv.step{l:List Fld}{E:List VE}{p:List Stage}(h:VInv l E p){x:Stage}{E':List VE}(hs:Sr l E x.step=some E'):VInv l E' (p++[x]):=by
 unfold Sr at hs
 split at hs
 ·rename_i hk
  cases hs
  exact ⟨λnm e he=>by obtain ⟨y,hy,h1⟩:=h.src nm e he;exact ⟨y,by simp [hy],h1⟩,
   λy hy hk2=>by
    rcases Ay.1 hy with hy|hy
    ·exact h.fits y hy hk2
    ·rw [Al.1 hy] at hk2;exact absurd hk hk2,
   λnm e he hb=>by obtain ⟨y,hy,h1⟩:=h.num nm e he hb;exact ⟨y,by simp [hy],h1⟩⟩
 ·rename_i hk
  split at hs
  ·rename_i hf
   cases hs
   refine ⟨λnm e he=>?_,λy hy hk2=>?_,λnm e he hb=>?_⟩
   ·rw [JK] at he
    split at he
    ·rename_i hn
     exact ⟨x,sm,hk,hn⟩
    ·obtain ⟨y,hy,h1⟩:=h.src nm e he;exact ⟨y,by simp [hy],h1⟩
   ·rw [JK]
    rcases Ay.1 hy with hy|hy
    ·obtain ⟨e,he,h1⟩:=h.fits y hy hk2
     have hne : ¬ (W4 l x.step).name=y.step.var:=λhn=>by
      have hn:x.step.var=y.step.var:=hn
      rw [<- hn,hf] at he;cases he
     exact ⟨e,by rw [if_neg hne];exact he,h1⟩
    ·rcases Al.1 hy with rfl
     refine ⟨_,if_pos rfl,rfl,rfl,λhn=>⟨hn, ?_, ?_⟩⟩
     ·simp [W4,hn]
     ·simp [W4,hn]
   ·rw [JK] at he
    split at he
    ·rename_i hn
     cases he
     exact ⟨x,sm,hk,hn,hb⟩
    ·obtain ⟨y,hy,h1⟩:=h.num nm e he hb;exact ⟨y,by simp [hy],h1⟩
  ·rename_i e0 hf
   split at hs
   ·cases hs
   ·rename_i hb0
    have hb0:lB l e0 x.step=false:=by simpa using hb0
    unfold lB at hb0
    rw [CG,CG] at hb0
    obtain ⟨b1,b2,b3⟩:=hb0
    have b1:e0.v.family=KY x.step.kind:=by simpa using b1
    have b2:e0.v.widths=Hh l x.step.key:=by simpa [Xe] using b2
    split at hs
    ·rename_i hnum
     cases hs
     refine ⟨λnm e he=>?_,λy hy hk2=>?_,λnm e he hb=>?_⟩
     ·rw [JK] at he
      split at he
      ·rename_i hn
       exact ⟨x,sm,hk,hn⟩
      ·obtain ⟨y,hy,h1⟩:=h.src nm e he;exact ⟨y,by simp [hy],h1⟩
     ·rw [JK]
      rcases Ay.1 hy with hy|hy
      ·obtain ⟨e,he,h1,h2,h3⟩:=h.fits y hy hk2
       by_cases hn:(W4 l x.step).name=y.step.var
       ·have hn2:x.step.var=y.step.var:=hn
        rw [<- hn2,hf] at he
        cases he
        refine ⟨_,if_pos hn, ?_, ?_,λhny=>?_⟩
        ·show KY x.step.kind=_
         rw [<- b1,h1]
        ·show Hh l x.step.key=_
         rw [<- b2,h2]
        ·obtain ⟨g1,g2,g3⟩:=h3 hny
         rw [hnum,g1,g2,g3] at b3
         simp only [Bz,CG,bne_eq_false_iff_eq] at b3
         refine ⟨rfl, ?_, ?_⟩
         ·simp [W4,hnum,b3.1]
         ·simp [W4,hnum,b3.2]
       ·exact ⟨e,by rw [if_neg hn];exact he,h1,h2,h3⟩
      ·rcases Al.1 hy with rfl
       refine ⟨_,if_pos rfl,rfl,rfl,λhn=>⟨rfl, ?_, ?_⟩⟩
       ·simp [W4,hn]
       ·simp [W4,hn]
     ·rw [JK] at he
      split at he
      ·rename_i hn
       exact ⟨x,sm,hk,hn,hnum⟩
      ·obtain ⟨y,hy,h1⟩:=h.num nm e he hb;exact ⟨y,by simp [hy],h1⟩
    ·rename_i hnum
     cases hs
     refine ⟨λnm e he=>?_,λy hy hk2=>?_,λnm e he hb=>?_⟩
     ·obtain ⟨y,hy,h1⟩:=h.src nm e he;exact ⟨y,by simp [hy],h1⟩
     ·rcases Ay.1 hy with hy|hy
      ·exact h.fits y hy hk2
      ·rcases Al.1 hy with rfl
       exact ⟨e0,hf,b1,b2,λhn=>absurd hn hnum⟩
     ·obtain ⟨y,hy,h1⟩:=h.num nm e he hb;exact ⟨y,by simp [hy],h1⟩
theorem kz{l:List Fld}{E:List VE}{p:List Stage}(h:VInv l E p)(s:Stp):(Sr l E s).isSome = !p.any (λy=>KQ l y.step s):=by
 by_cases hk:s.kind=0
 ·unfold Sr
  rw [if_pos hk]
  have:p.any (λy=>KQ l y.step s)=false:=by
   rw [Bk];intro y _;simp [KQ,hk]
  rw [this];rfl
 ·rw [wz h hk]
  unfold Sr
  rw [if_neg hk]
  cases M9 E s.var with
  | none=>rfl
  | some e =>
   dsimp only
   cases lB l e s
   ·cases Ks s<;>rfl
   ·rfl
theorem YR(l:List Fld)(p:List Stage): ∀ (n i:Nat) (E:List VE),p.length - i=n->VInv l E (p.take i)->(vGo l E (p.drop i)).isSome=Jw l p i (p.drop i)
 | 0,i,E,hn,_=>by
  rw [List.drop_eq_nil_of_le DF];rfl
 | n+1,i,E,hn,h=>by
  have hlt:i<p.length:=DF
  rw [List.drop_eq_getElem_cons hlt,vGo,Jw]
  have h1:=kz h p[i].step
  cases hs:Sr l E p[i].step with
  | none =>
   rw [hs] at h1
   rw [<- h1];rfl
  | some E' =>
   rw [hs] at h1
   rw [<- h1]
   have ht:p.take (i+1)=p.take i++[p[i]]:=by rw [List.take_add_one,AL hlt];rfl
   have:=YR l p n (i+1) E' DF (by rw [ht];exact h.step hs)
   simpa using this
theorem qm(l:List Fld)(p:List Stage):(vGo l [] p).isSome=Jw l p 0 p:=by
 have:=YR l p p.length 0 [] DF (by simpa using VInv.nil l)
 simpa using this
def ZR(t:Tenant):Prop:=∀ w∈t.wires,(0<=w.src/\w.src<=65535)/\(0<=w.dst/\w.dst<=65535)
theorem Rr(l:List Fld): ∀ r:List Policy,KM l r=0 ↔ ∀ x∈r,QU l x=0
 | []=>by simp [KM]
 | x::r=>by
  rw [KM]
  by_cases h:QU l x=0
  ·rw [if_pos h,Rr l r];simp [h]
  ·rw [if_neg h];simp [h]
theorem Oj(l:List Fld): ∀ r:List Pred,KP l r=0 ↔ ∀ x∈r,O1 l x=0
 | []=>by simp [KP]
 | x::r=>by
  rw [KP]
  by_cases h:O1 l x=0
  ·rw [if_pos h,Oj l r];simp [h]
  ·rw [if_neg h];simp [h]
def Gw(l:List Fld)(x:Pred):Prop:=MP x=true /\ ∀ y∈Rq x,O1 l y=0
def GM(l:List Fld)(x:Policy):Prop:=Qz x=true /\ ∀ y∈Lt x,QU l y=0
theorem ej:JT IO=65535:=dk
theorem Y5(l:List Fld):EO l Eu=(IO,true):=by unfold EO;rw [if_pos rfl]
theorem gt:UR Eu=true:=by unfold UR;simp
theorem rS(l:List Fld){n:Int}(h1:0<=n)(h2:n<=65535):Gw l (ZI n):=by
 constructor
 ·rw [GO]
  unfold R1 ZI
  rw [GN]
  simp [gt,MO,h1,h2]
 ·intro y hy
  rw [KW] at hy
  have:y=ZI n:=by simpa [ZI,Kg] using hy
  subst this
  have : ¬ (JT IO<n):=by rw [ej];omega
  simp [O1,ZI,Y5,this]
theorem Vr(l:List Fld):Gw l Ib:=by
 constructor
 ·rw [GO]
  unfold R1 Ib IF
  rw [GN];simp
 ·intro y hy
  rw [KW] at hy
  have:y=Ib:=by simpa [Ib,Kg] using hy
  subst this
  simp [O1,Ib]
theorem ADT{l:List Fld}{x y:Pred}(hx:Gw l x)(hy:Gw l y):Gw l (rx x y):=by
 constructor
 ·rw [GO]
  unfold R1 rx IF
  dsimp only
  rw [Jb,Jb,GN,hx.1,hy.1];simp
 ·intro z hz
  rw [KW] at hz
  rcases AZ.1 hz with rfl|hz
  ·simp [O1,rx]
  ·have hz:z∈Ls [x,y]:=hz
   rw [IV,IV,Kg] at hz
   rcases Ay.1 hz with hz|hz
   ·exact hx.2 z hz
   ·exact hy.2 z (by simpa using hz)
theorem zt{l:List Fld}{x:Pred}(hx:Gw l x):Gw l (bB x):=by
 constructor
 ·rw [GO]
  unfold R1 bB IF
  dsimp only
  rw [Jb,GN,hx.1];simp
 ·intro z hz
  rw [KW] at hz
  rcases AZ.1 hz with rfl|hz
  ·simp [O1,bB]
  ·have hz:z∈Ls [x]:=hz
   rw [IV,Kg] at hz
   exact hx.2 z (by simpa using hz)
theorem Nx{l:List Fld}{x:Pred}(hx:Gw l x):GM l (Gk x):=by
 constructor
 ·rw [G7]
  unfold U7 Gk
  dsimp only
  rw [HY,hx.1];simp
 ·intro z hz
  rw [Jo] at hz
  have:z=Gk x:=by simpa [Gk,JO] using hz
  subst this
  show (if (1:Int)=1 then Q0 l x else _)=0
  rw [if_pos rfl]
  exact (Oj l _).2 hx.2
theorem P0:rY Pred.z On=true:=AAO _
theorem zr(l:List Fld){n:Int}(h1:0<=n)(h2:n<=65535):GM l (Xh Eu n):=by
 constructor
 ·rw [G7]
  unfold U7 Xh
  dsimp only
  rw [HY,P0];simp [gt,MO,h1,h2]
 ·intro z hz
  rw [Jo] at hz
  have:z=Xh Eu n:=by simpa [Xh,JO] using hz
  subst this
  have : ¬ (JT IO<n):=by rw [ej];omega
  simp [QU,Xh,Y5,this]
theorem gT{l:List Fld}{x y:Policy}(hx:GM l x)(hy:GM l y){k:Int}(hk:k=3\/k=4):GM l ⟨k,Pred.z,⟨#[]⟩,0,[x,y]⟩:=by
 constructor
 ·rw [G7]
  unfold U7
  dsimp only
  rw [Jc,Jc,HY,hx.1,hy.1,P0]
  rcases hk with rfl|rfl<;>simp
 ·intro z hz
  rw [Jo] at hz
  rcases AZ.1 hz with rfl|hz
  ·rcases hk with rfl|rfl<;>simp [QU]
  ·have hz:z∈LK [x,y]:=hz
   rw [HT,HT,JO] at hz
   rcases Ay.1 hz with hz|hz
   ·exact hx.2 z hz
   ·exact hy.2 z (by simpa using hz)
theorem oM{l:List Fld}{x y:Policy}(hx:GM l x)(hy:GM l y):GM l (Jm x y):=gT hx hy (.inl rfl)
theorem Qy{l:List Fld}{x y:Policy}(hx:GM l x)(hy:GM l y):GM l (Tu x y):=gT hx hy (.inr rfl)
theorem uc{l:List Fld}{x:Policy}(hx:GM l x):GM l (RC x):=by
 constructor
 ·rw [G7]
  unfold U7 RC
  dsimp only
  rw [Jc,HY,hx.1,P0];simp
 ·intro z hz
  rw [Jo] at hz
  rcases AZ.1 hz with rfl|hz
  ·simp [QU,RC]
  ·have hz:z∈LK [x]:=hz
   rw [HT,JO] at hz
   exact hx.2 z (by simpa using hz)
theorem Y0{α:Type}{p:α->Prop}{two:α->α->α}(h2 : ∀ x y,p x->p y->p (two x y)): ∀ (l:List α) (x:α),p x->(∀ y∈l,p y)->p (l.foldl two x)
 | [],x,hx,_=>hx
 | y::l,x,hx,h=>Y0 h2 l (two x y) (h2 x y hx (h y sm)) λz hz=>h z (by simp [hz])
theorem Yz{α:Type}{p:α->Prop}{two:α->α->α}{z:α}(h2 : ∀ x y,p x->p y->p (two x y))(hz:p z){l:List α}(h : ∀ y∈l,p y):p (KO z two l):=by
 cases l with
 | nil=>exact hz
 | cons x l=>exact Y0 h2 l x (h x sm) λy hy=>h y (by simp [hy])
theorem gU{l:List Fld}{t:Tenant}{p:Policy}(hw:ZR t)(hp:GM l p):GM l (Fu t p):=by
 unfold Fu
 split
 ·exact hp
 ·have h1:Gw l (OC t):=Yz (p:=Gw l) (two:=rx) (λ_ _=>ADT) (Vr l) λy hy=>by
   obtain ⟨w,hm,rfl⟩:=AO.1 hy
   exact rS l (hw w hm).1.1 (hw w hm).1.2
  have h2:GM l (Lf t):=Yz (p:=GM l) (two:=Jm) (λ_ _=>oM) (Nx (Vr l)) λy hy=>by
   obtain ⟨w,hm,rfl⟩:=AO.1 hy
   exact Qy (Nx (rS l (hw w hm).1.1 (hw w hm).1.2)) (zr l (hw w hm).2.1 (hw w hm).2.2)
  exact Qy (Qy hp (uc (Qy h2 hp))) (Nx (zt h1))
theorem SV{l:List Fld}{x:Policy}(h:Jh l x=0):UW x=0/\GM l x:=by
 unfold Jh at h
 split at h
 ·rename_i h0
  refine ⟨h0, ?_,(Rr l _).1 h⟩
  unfold UW rU at h0
  split at h0
  ·split at h0
   ·assumption
   ·cases h0
  ·rename_i hl;exact absurd h0 hl
 ·rename_i hn;exact absurd h hn
theorem am{l:List Fld}{x:Policy}(hn:UW x≠2)(h:GM l x):Jh l x=0:=by
 have h0:UW x=0:=by
  unfold UW rU Pk at hn ⊢
  rw [h.1] at hn ⊢
  by_cases hz:(lI x).nodes>200\/(lI x).depth>20
  ·rw [if_pos hz] at hn;exact absurd rfl hn
  ·rw [if_neg hz];rfl
 rw [Jh,if_pos h0]
 exact (Rr l _).2 h.2
theorem YS(l:List Fld): ∀ (p q:List Stage) (E:List VE),p.map (·.step)=q.map (·.step)->vGo l E p=vGo l E q
 | [],[],_,_=>rfl
 | [],_::_,_,h=>by cases h
 | _::_,[],_,h=>by cases h
 | x::p,y::q,E,h=>by
  simp only [List.map_cons,List.cons.injEq] at h
  rw [vGo,vGo,h.1]
  cases Sr l E y.step with
  | none=>rfl
  | some E'=>exact YS l p q E' h.2
theorem Uj(l:List Fld): ∀ r:List Stage,Lq l r=0 ↔ ∀ x∈r,Jh l x.policy=0/\LG l x.step=0
 | []=>by simp [Lq]
 | x::r=>by
  rw [Lq]
  by_cases h:Jh l x.policy=0
  ·rw [if_pos h]
   by_cases h2:LG l x.step=0
   ·rw [if_pos h2,Uj l r];simp [h,h2]
   ·rw [if_neg h2];simp [h2]
  ·rw [if_neg h];simp [h]
theorem WA : ∀ r:List Stage,O3 r=0 ↔ ∀ x∈r,UW x.policy=0/\cZ x.step=0
 | []=>by simp [O3]
 | x::r=>by
  rw [O3]
  by_cases h:UW x.policy=0
  ·rw [if_pos h]
   by_cases h2:cZ x.step=0
   ·rw [if_pos h2,WA r];simp [h,h2]
   ·rw [if_neg h2];simp [h2]
  ·rw [if_neg h];simp [h]
theorem rl{l:List Fld}{p:List Stage}(h:PN l p=0):p.length<=8/\(∀ x∈p,UW x.policy=0/\cZ x.step=0)/\(∀ x∈p,Jh l x.policy=0/\LG l x.step=0)/\(vGo l [] p).isSome=true:=by
 unfold PN at h
 split at h
 ·rename_i hn;exact absurd h hn
 ·rename_i h1
  split at h
  ·rename_i hn;exact absurd h hn
  ·rename_i h2
   split at h
   ·rename_i h3
    have h1:W2 p=0:=by simpa using h1
    have h2:Lq l p=0:=by simpa using h2
    unfold W2 at h1
    split at h1
    ·cases h1
    ·rename_i hl
     exact ⟨DF,(WA p).1 h1,(Uj l p).1 h2,by rw [qm];exact h3⟩
   ·cases h
theorem AQo{l:List Fld}{p:List Stage}(h1:p.length<=8)(h2 : ∀ x∈p,UW x.policy=0/\cZ x.step=0)(h3 : ∀ x∈p,Jh l x.policy=0/\LG l x.step=0)(h4:(vGo l [] p).isSome=true):PN l p=0:=by
 rw [qm] at h4
 have g1:W2 p=0:=by unfold W2;rw [if_neg DF];exact (WA p).2 h2
 have g2:Lq l p=0:=(Uj l p).2 h3
 unfold PN
 rw [if_neg (by simp [g1]),if_neg (by simp [g2]),if_pos h4]
theorem QJ(t:Tenant): ∀ (r o:List Stage),(F9 t o r).2=2/\(F9 t o r).1=[] \/
  (F9 t o r).2=0/\(F9 t o r).1=o++r.map (λx=>{ x with policy:=Fu t x.policy }) /\ ∀ x∈r,UW (Fu t x.policy)≠2
 | [],o => .inr ⟨rfl,by simp [F9],λ_ h=>by cases h⟩
 | x::r,o=>by
  rw [F9]
  split
  ·exact .inl ⟨rfl,rfl⟩
  ·rename_i hn
   rcases QJ t r (o++[{ x with policy:=Fu t x.policy }]) with h|⟨h1,h2,h3⟩
   ·exact .inl h
   ·refine .inr ⟨h1,by rw [h2];simp,λy hy=>?_⟩
    rcases AZ.1 hy with rfl|hy
    ·exact hn
    ·exact h3 y hy
theorem kw{l:List Fld}{t:Tenant}(hw:ZR t)(h:PN l t.program=0):
  ((FC t).2=2/\(FC t).1=[]/\t.wires≠[])\/((FC t).2=0/\PN l (FC t).1=0/\(FC t).1.map (·.step)=t.program.map (·.step)):=by
 obtain ⟨h1,h2,h3,h4⟩:=rl h
 rcases QJ t t.program [] with ⟨g1,g2⟩|⟨g1,g2,g3⟩
 ·refine .inl ⟨g1,g2,λhe=>?_⟩
  have : ∀ (r o:List Stage),(∀ x∈r,UW x.policy=0)->(F9 t o r).2=0:=by
   intro r
   induction r with
   | nil=>intro o _;rfl
   | cons x r ih =>
    intro o hx
    rw [F9]
    have e:Fu t x.policy=x.policy:=by unfold Fu;rw [if_pos he]
    rw [e,if_neg (by rw [hx x sm];decide)]
    exact ih _ λy hy=>hx y (by simp [hy])
  rw [this t.program [] λx hx=>(h2 x hx).1] at g1
  cases g1
 ·have hst:(FC t).1.map (·.step)=t.program.map (·.step):=by
   show (F9 t [] t.program).1.map _=_
   rw [g2];simp [List.map_map,Function.comp_def]
  refine .inr ⟨g1, ?_,hst⟩
  have hm : ∀ x∈(FC t).1,Jh l x.policy=0/\UW x.policy=0/\cZ x.step=0/\LG l x.step=0:=by
   intro x hx
   have hx:x∈(F9 t [] t.program).1:=hx
   rw [g2,List.nil_append] at hx
   obtain ⟨y,hy,rfl⟩:=AO.1 hx
   have hg:=am (g3 y hy) (gU hw (SV (h3 y hy).1).2)
   exact ⟨hg,(SV hg).1,(h2 y hy).2,(h3 y hy).2⟩
  refine AQo ?_ (λx hx=>⟨(hm x hx).2.1,(hm x hx).2.2.1⟩) (λx hx=>⟨(hm x hx).1,(hm x hx).2.2.2⟩) ?_
  ·have:=congrArg List.length hst
   simp only [List.length_map] at this
   omega
  ·rw [YS l _ _ [] hst];exact h4
theorem Wk{a b:Head}(h:a.l=b.l):a=b:=by
 cases a;cases b
 simp only [Head.l,List.cons.injEq,and_true] at h
 simp [h]
def Kb:List Int->List Int->Int
 | [],[]=>0
 | [],_::_ => -1
 | _::_,[]=>1
 | x::a,y::b=>if x<y then -1 else if y<x then 1 else Kb a b
def Hb(a b:Head):Int:=Kb a.l b.l
theorem ZA : ∀ a:List Int,Kb a a=0
 | []=>rfl
 | x::a=>by rw [Kb,if_neg DF,if_neg DF,ZA a]
theorem rk : ∀ {a b:List Int},Kb a b=0->a=b
 | [],[],_=>rfl
 | [],_::_,h=>by simp [Kb] at h
 | _::_,[],h=>by simp [Kb] at h
 | x::a,y::b,h=>by
  rw [Kb] at h
  split at h
  ·cases h
  ·split at h
   ·cases h
   ·have:x=y:=DF
    rw [this,rk h]
theorem iQ : ∀ a b:List Int,Kb a b = - Kb b a
 | [],[]=>rfl
 | [],_::_=>rfl
 | _::_,[]=>rfl
 | x::a,y::b=>by
  rw [Kb,Kb]
  by_cases h1:x<y
  ·rw [if_pos h1,if_neg DF,if_pos h1]
  ·by_cases h2:y<x
   ·rw [if_neg h1,if_pos h2,if_pos h2];rfl
   ·rw [if_neg h1,if_neg h2,if_neg h2,if_neg h1,iQ a b]
theorem V6 : ∀ {a b c:List Int},Kb a b<0->Kb b c<0->Kb a c<0
 | [],[],_,h,_=>by simp [Kb] at h
 | [],_::_,[],_,h=>by simp [Kb] at h
 | [],_::_,_::_,_,_=>by simp [Kb]
 | _::_,[],_,h,_=>by simp [Kb] at h
 | _::_,_::_,[],_,h=>by simp [Kb] at h
 | x::a,y::b,z::c,h1,h2=>by
  rw [Kb] at h1 h2 ⊢
  by_cases hxy:x<y
  ·by_cases hyz:y<z
   ·rw [if_pos DF];decide
   ·rw [if_neg hyz] at h2
    by_cases hzy:z<y
    ·rw [if_pos hzy] at h2;simp at h2
    ·rw [if_pos DF];decide
  ·rw [if_neg hxy] at h1
   by_cases hyx:y<x
   ·rw [if_pos hyx] at h1;simp at h1
   ·rw [if_neg hyx] at h1
    have:x=y:=DF
    subst this
    by_cases hyz:x<z
    ·rw [if_pos hyz];decide
    ·rw [if_neg hyz] at h2 ⊢
     by_cases hzy:z<x
     ·rw [if_pos hzy] at h2;simp at h2
     ·rw [if_neg hzy] at h2 ⊢
      exact V6 h1 h2
theorem Oo(a:Head):Hb a a=0:=ZA _
theorem Q8{a b:Head}(h:Hb a b=0):a=b:=Wk (rk h)
theorem V7(a b:Head):Hb a b = - Hb b a:=iQ _ _
theorem K4{a b c:Head}(h1:Hb a b<0)(h2:Hb b c<0):Hb a c<0:=V6 h1 h2
def KT(l:List Head):Prop:=l.Pairwise λa b=>Hb a b<0
theorem xI:KT []:=.nil
theorem cz(h:Head):KT [h]:=List.pairwise_singleton _ _
theorem qp : ∀ {a b:List Head},KT a->KT b->(∀ x,x∈a↔x∈b)->a=b
 | [],[],_,_,_=>rfl
 | [],y::b,_,_,h=>by have:=(h y).2 sm ; cases this
 | x::a,[],_,_,h=>by have:=(h x).1 sm ; cases this
 | x::a,y::b,h1,h2,h=>by
  obtain ⟨g1,g2⟩:=Bi.1 h1
  obtain ⟨g3,g4⟩:=Bi.1 h2
  have hxy:x=y:=by
   rcases AZ.1 ((h x).1 sm) with e|e
   ·exact e
   ·rcases AZ.1 ((h y).2 sm) with e2|e2
    ·exact e2.symm
    ·have h3:=g3 x e
     have h4:=g1 y e2
     have:=V7 x y
     omega
  subst hxy
  congr 1
  refine qp g2 g4 λz=>⟨λhz=>?_,λhz=>?_⟩
  ·rcases AZ.1 ((h z).1 (by simp [hz])) with e|e
   ·subst e;have:=g1 z hz;rw [Oo] at this;omega
   ·exact e
  ·rcases AZ.1 ((h z).2 (by simp [hz])) with e|e
   ·subst e;have:=g3 z hz;rw [Oo] at this;omega
   ·exact e
def NG(h:Head):List Head->List Head
 | []=>[h]
 | x::r=>if Hb x h<0 then x::NG h r else if x=h then x::r else h::x::r
def Fb(a b:List Head):List Head:=b.foldl (λo x=>NG x o) a
theorem VD(h z:Head): ∀ l:List Head,z∈NG h l↔z=h\/z∈l
 | []=>by simp [NG]
 | x::r=>by
  rw [NG]
  split
  ·rw [AZ,VD h z r,AZ]
   constructor
   ·rintro (e|e|e)
    ·exact .inr (.inl e)
    ·exact .inl e
    ·exact .inr (.inr e)
   ·rintro (e|e|e)
    ·exact .inr (.inl e)
    ·exact .inl e
    ·exact .inr (.inr e)
  ·split
   ·rename_i e
    subst e
    simp
   ·simp
theorem cw(h:Head): ∀ {l:List Head},KT l->KT (NG h l)
 | [],_=>cz h
 | x::r,hs=>by
  obtain ⟨g1,g2⟩:=Bi.1 hs
  rw [NG]
  split
  ·rename_i hlt
   refine Bi.2 ⟨λz hz=>?_,cw h g2⟩
   rcases (VD h z r).1 hz with e|e
   ·rw [e];exact hlt
   ·exact g1 z e
  ·rename_i hlt
   split
   ·exact hs
   ·rename_i hne
    have hx:Hb h x<0:=by
     have h1:=V7 h x
     have:Hb x h≠0:=λe=>hne (Q8 e)
     omega
    refine Bi.2 ⟨λz hz=>?_,hs⟩
    rcases AZ.1 hz with e|e
    ·rw [e];exact hx
    ·exact K4 hx (g1 z e)
theorem dW(h:Head): ∀ l:List Head,l.length<=(NG h l).length/\(NG h l).length<=l.length+1
 | []=>by simp [NG]
 | x::r=>by
  have:=dW h r
  rw [NG]
  split
  ·simp only [AC];omega
  ·split<;>simp
theorem Pi(z:Head): ∀ (b a:List Head),z∈Fb a b↔z∈a\/z∈b
 | [],a=>by simp [Fb]
 | x::b,a=>by
  have:=Pi z b (NG x a)
  unfold Fb at this ⊢
  rw [CF,this,VD,AZ]
  constructor
  ·rintro ((e|e)|e)
   ·exact .inr (.inl e)
   ·exact .inl e
   ·exact .inr (.inr e)
  ·rintro (e|e|e)
   ·exact .inl (.inr e)
   ·exact .inl (.inl e)
   ·exact .inr e
theorem Pa : ∀ (b:List Head) {a:List Head},KT a->KT (Fb a b)
 | [],_,h=>h
 | x::b,a,h=>Pa b (a:=NG x a) (cw x h)
theorem VC : ∀ (b a:List Head),a.length<=(Fb a b).length/\(Fb a b).length<=a.length+b.length
 | [],a=>by simp [Fb]
 | x::b,a=>by
  have h1:=VC b (NG x a)
  have h2:=dW x a
  unfold Fb at h1 ⊢
  rw [CF,AC]
  omega
def Ht:Nat->List Head->List Head->List Head
 | 0,_,_=>[]
 | _+1,[],b=>b
 | _+1,a,[]=>a
 | n+1,x::a,y::b=>if Hb x y<0 then x::Ht n a (y::b) else if Hb x y=0 then y::Ht n a b else y::Ht n (x::a) b
def Ga(a b:List Head):List Head:=Ht (a.length+b.length+1) a b
theorem JS(z:Head): ∀ (n:Nat) (a b:List Head),a.length+b.length<n->(z∈Ht n a b↔z∈a\/z∈b)
 | 0,a,b,h=>DF
 | n+1,[],b,_=>by simp [Ht]
 | n+1,x::a,[],_=>by simp [Ht]
 | n+1,x::a,y::b,h=>by
  simp only [AC] at h
  rw [Ht]
  split
  ·rw [AZ,JS z n a (y::b) (by simp;omega),AZ (l:=a)]
   constructor
   ·rintro (e|e|e)
    ·exact .inl (.inl e)
    ·exact .inl (.inr e)
    ·exact .inr e
   ·rintro ((e|e)|e)
    ·exact .inl e
    ·exact .inr (.inl e)
    ·exact .inr (.inr e)
  ·split
   ·rename_i he
    have hxy:=Q8 he
    subst hxy
    rw [AZ,JS z n a b DF,AZ,AZ]
    constructor
    ·rintro (e|e|e)
     ·exact .inl (.inl e)
     ·exact .inl (.inr e)
     ·exact .inr (.inr e)
    ·rintro ((e|e)|(e|e))
     ·exact .inl e
     ·exact .inr (.inl e)
     ·exact .inl e
     ·exact .inr (.inr e)
   ·rw [AZ,JS z n (x::a) b (by simp;omega),AZ (l:=b)]
    constructor
    ·rintro (e|e|e)
     ·exact .inr (.inl e)
     ·exact .inl e
     ·exact .inr (.inr e)
    ·rintro (e|e|e)
     ·exact .inr (.inl e)
     ·exact .inl e
     ·exact .inr (.inr e)
theorem OU : ∀ (n:Nat) (a b:List Head),a.length+b.length<n->KT a->KT b->KT (Ht n a b)
 | 0,a,b,h,_,_=>DF
 | n+1,[],b,_,_,hb=>by simpa [Ht] using hb
 | n+1,x::a,[],_,ha,_=>by simpa [Ht] using ha
 | n+1,x::a,y::b,h,ha,hb=>by
  simp only [AC] at h
  obtain ⟨g1,g2⟩:=Bi.1 ha
  obtain ⟨g3,g4⟩:=Bi.1 hb
  rw [Ht]
  split
  ·rename_i hlt
   refine Bi.2 ⟨λz hz=>?_,OU n a (y::b) (by simp;omega) g2 hb⟩
   rcases (JS z n a (y::b) (by simp;omega)).1 hz with e|e
   ·exact g1 z e
   ·rcases AZ.1 e with e|e
    ·rw [e];exact hlt
    ·exact K4 hlt (g3 z e)
  ·rename_i hlt
   split
   ·rename_i he
    have hxy:=Q8 he
    subst hxy
    refine Bi.2 ⟨λz hz=>?_,OU n a b DF g2 g4⟩
    rcases (JS z n a b DF).1 hz with e|e
    ·exact g1 z e
    ·exact g3 z e
   ·rename_i hne
    have hyx:Hb y x<0:=by have:=V7 x y;omega
    refine Bi.2 ⟨λz hz=>?_,OU n (x::a) b (by simp;omega) ha g4⟩
    rcases (JS z n (x::a) b (by simp;omega)).1 hz with e|e
    ·rcases AZ.1 e with e|e
     ·rw [e];exact hyx
     ·exact K4 hyx (g1 z e)
    ·exact g3 z e
theorem OX{a b:List Head}(ha:KT a)(hb:KT b):Ga a b=Fb a b :=
 qp (OU _ a b DF ha hb) (Pa b ha) λz=>by rw [Ga,JS z _ a b DF,Pi]
def IG(f:Head->Option (List Head)):List Head->List Head->Option (List Head)
 | o,[]=>some o
 | o,x::r=>match f x with
  | none=>none
  | some a=>if 256<(Fb o a).length then none else IG f (Fb o a) r
def HD(o n:List Head):List Head:=n.filter λx => !o.any λy=>decide (y=x)
def J9(f:Head->Option (List Head)):Nat->List Head->List Head->Option (List Head)
 | 0,_,_=>none
 | k+1,o,n=>if n=[] then some o else match IG f [] n with
  | none=>none
  | some m=>if 256<(Fb o (HD o m)).length then none else J9 f k (Fb o (HD o m)) (HD o m)
def EY(h:Head)(k:Nat):Int:=(h.l[k]?).getD 0
def sf(h:Head)(k:Nat)(v:Int):Head :=
 ⟨if k=0 then v else h.h0,if k=1 then v else h.h1,if k=2 then v else h.h2,if k=3 then v else h.h3,if k=4 then v else h.h4,if k=5 then v else h.h5,if k=6 then v else h.h6,if k=7 then v else h.h7,if k=8 then v else h.h8,if k=9 then v else h.h9⟩
def Fr(f:Fld):Prop:=1<=f.width/\f.width<=16/\0<=f.at_/\f.at_<=143/\f.at_ % 16+f.width<=16
def fK(f:Fld):Nat:=(f.at_ / 16).toNat
def fS(f:Fld):Nat:=(16 - f.at_ % 16 - f.width).toNat
def fW(f:Fld):Nat:=f.width.toNat
def Mq(f:Fld)(h:Head):Nat:=(EY h (fK f)).toNat / 2^fS f % 2^fW f
def QP(f:Fld)(h:Head)(n:Nat):Head:=sf h (fK f) ((((EY h (fK f)).toNat ^^^ ((EY h (fK f)).toNat &&& ((2^fW f - 1) <<< fS f))) ||| (n <<< fS f):Nat):Int)
theorem IW{f:Fld}(h:Fr f):fK f<=8/\fS f+fW f<=16/\1<=fW f:=by
 unfold Fr at h
 unfold fK fS fW
 omega
theorem GJ{h:Head}(hr:EF h=true)(k:Nat):0<=EY h k/\EY h k<=65535:=by
 unfold EF at hr
 unfold EY
 cases hk:h.l[k]? with
 | none=>simp
 | some v =>
  have:=Ao.1 hr v (List.mem_of_getElem? hk)
  simpa [KS] using this
theorem yw(h:Head)(k:Nat)(v:Int):(sf h k v).l=h.l.set k v:=by
 match k with
 | 0=>rfl
 | 1=>rfl
 | 2=>rfl
 | 3=>rfl
 | 4=>rfl
 | 5=>rfl
 | 6=>rfl
 | 7=>rfl
 | 8=>rfl
 | 9=>rfl
 | n+10=>rfl
theorem Sy{h:Head}(hr:EF h=true)(k:Nat){v:Int}(h0:0<=v)(h1:v<=65535):EF (sf h k v)=true:=by
 unfold EF at hr ⊢
 rw [yw,Ao]
 intro x hx
 rcases List.mem_or_eq_of_mem_set hx with hx|rfl
 ·exact Ao.1 hr x hx
 ·simp [KS,h0,h1]
theorem iw{W M:Nat}(hW:W<65536)(hM:M<65536):W ^^^ (W &&& M)<65536:=Ca (n:=16) hW (Di _ hM)
theorem AFx{W s w n:Nat}(hW:W<65536)(hn:n<2^w)(hsw:s+w<=16):(W ^^^ (W &&& ((2^w - 1) <<< s))) ||| (n <<< s)<65536:=by
 refine ED (n:=16) (Ca (n:=16) hW (CX DI hW)) ?_
 rw [Dj]
 calc n*2^s<2^w*2^s:=EE hn (Ba s)
  _=2^(s+w):=by rw [CE,Nat.pow_add]
  _<=2^16:=Bb dc hsw
theorem Sq(h:Head)(k j:Nat)(v:Int)(hk:k<10):EY (sf h k v) j=if j=k then v else EY h j:=by
 unfold EY
 rw [yw,A0]
 by_cases e:k=j
 ·subst e
  rw [if_pos rfl,if_pos (by simpa [Head.l] using hk),if_pos rfl];rfl
 ·rw [if_neg e,if_neg (λc=>e c.symm)]
theorem cj(j:Nat):EY Head.z j=0:=by
 match j with
 | 0|1|2|3|4|5|6|7|8|9=>rfl
 | n+10=>rfl
theorem zO{a b:Head}(h : ∀ k,k<10->EY a k=EY b k):a=b:=by
 apply Wk
 apply A4
 intro k
 by_cases hk:k<10
 ·have:=h k hk
  unfold EY at this
  have la:a.l.length=10:=rfl
  have lb:b.l.length=10:=rfl
  rw [AL DF,AL DF] at this ⊢
  simpa using this
 ·rw [Ax (by show 10<=k;omega),Ax (by show 10<=k;omega)]
def KN(w m:Nat):Nat:=(2^w - 1) ^^^ ((2^w - 1) &&& (2^(w - m) - 1))
theorem Yk(w m j:Nat):(KN w m).testBit j=(decide (w - m<=j)&&decide (j<w)):=by
 unfold KN
 rw [Dk,Cs,EG,EG]
 by_cases h1:j<w<;>by_cases h2:j<w - m<;>simp [h1,h2]<;>omega
theorem ep(w m:Nat):KN w m<2^w:=by
 have:0<2^w:=Ba w
 exact Ca DF (CX DI DF)
theorem mI(w:Nat):KN w w=2^w - 1:=by
 unfold KN
 rw [Nat.sub_self];simp
def Uv(f:Fld)(n m:Nat):Pat:=⟨QP f Head.z (KN (fW f) m),QP f Head.z (n &&& KN (fW f) m)⟩
def mH(p:Pat)(h:Head):Bool:=(List.range 10).all λi=>(((EY p.bits i).toNat ^^^ (EY h i).toNat) &&& (EY p.mask i).toNat)==0
def Hg(p:Pat)(h:Head)(i:Nat):Int:=((((EY h i).toNat ^^^ ((EY h i).toNat &&& (EY p.mask i).toNat)) ||| (EY p.bits i).toNat:Nat):Int)
def bI(p:Pat)(h:Head):Head:=⟨Hg p h 0,Hg p h 1,Hg p h 2,Hg p h 3,Hg p h 4,Hg p h 5,Hg p h 6,Hg p h 7,Hg p h 8,Hg p h 9⟩
theorem Rj(f:Fld)(hf:Fr f)(v j:Nat):EY (QP f Head.z v) j=if j=fK f then ((v <<< fS f:Nat):Int) else 0:=by
 have hd:=IW hf
 unfold QP
 rw [Sq _ _ _ _ DF,cj,cj]
 split<;>simp
theorem iL{a b w k:Nat}(ha:a<2^w)(hb:b<2^w):a / 2^k=b / 2^k ↔ ∀ j,k<=j->j<w->a.testBit j=b.testBit j:=by
 constructor
 ·intro h j h1 _
  have e:j=(j - k)+k:=DF
  rw [e,<- Ct,<- Ct,h]
 ·intro h
  apply EH
  intro i
  rw [Ct,Ct]
  by_cases hw:i+k<w
  ·exact h _ DF hw
  ·rw [EI (BR ha (Bb dc DF)),EI (BR hb (Bb dc DF))]
theorem gV(f:Fld)(h:Head)(j:Nat)(hj:j<fW f):(Mq f h).testBit j=(EY h (fK f)).toNat.testBit (fS f+j):=by
 unfold Mq
 rw [Nat.testBit_mod_two_pow,Ct,CE]
 simp [hj]
theorem ADV(f:Fld)(h:Head):Mq f h<2^fW f:=Nat.mod_lt _ (Ba _)
theorem Yj{f:Fld}(hf:Fr f){n m:Nat}(hn:n<2^fW f)(hm:m<=fW f)(h:Head):mH (Uv f n m) h=decide (Mq f h / 2^(fW f - m)=n / 2^(fW f - m)):=by
 have hd:=IW hf
 rw [BA,decide_eq_true_eq,iL (ADV f h) hn]
 unfold mH Uv
 rw [Ao]
 constructor
 ·intro hall j h1 h2
  have:=hall (fK f) (by rw [List.mem_range];omega)
  rw [Rj f hf,Rj f hf,if_pos rfl,if_pos rfl,beq_iff_eq,Ae,Ae] at this
  have hb:((((n &&& KN (fW f) m) <<< fS f) ^^^ (EY h (fK f)).toNat) &&& (KN (fW f) m <<< fS f)).testBit (fS f+j)=false:=by rw [this];simp
  rw [Cs,Dk,DJ,DJ,Cs] at hb
  have e1:decide (fS f<=fS f+j)=true:=sm
  have e2:fS f+j - fS f=j:=DF
  have e3:(KN (fW f) m).testBit j=true:=by rw [Yk];simp;omega
  rw [e1,e2,e3] at hb
  rw [gV f h j h2]
  simp only [Bool.and_true,Bz,bne_eq_false_iff_eq] at hb
  exact hb.symm
 ·intro hbits i hi
  rw [Rj f hf,Rj f hf]
  by_cases e:i=fK f
  ·subst e
   rw [if_pos rfl,if_pos rfl,beq_iff_eq,Ae,Ae]
   apply EH
   intro i
   rw [Cs,Dk,DJ,DJ,Cs,Yk]
   by_cases g0:fS f<=i
   ·by_cases g1:fW f - m<=i - fS f/\i - fS f<fW f
    ·have hb:=hbits (i - fS f) g1.1 g1.2
     rw [gV f h _ g1.2,show fS f+(i - fS f)=i by omega] at hb
     have e1:decide (fS f<=i)=true:=by simpa using g0
     have e2:(decide (fW f - m<=i - fS f)&&decide (i - fS f<fW f))=true:=by simp;omega
     rw [hb,e1,e2]
     simp
    ·have:(decide (fW f - m<=i - fS f)&&decide (i - fS f<fW f))=false:=by simp;omega
     rw [this];simp
   ·simp [g0]
  ·rw [if_neg e,if_neg e];simp
theorem vh{f:Fld}(hf:Fr f){n:Nat}(hn:n<2^fW f){h:Head}(hr:EF h=true):bI (Uv f n (fW f)) h=QP f h n:=by
 have hd:=IW hf
 apply zO
 intro k hk
 have e1:EY (bI (Uv f n (fW f)) h) k=Hg (Uv f n (fW f)) h k:=by
  match k,hk with
  | 0,_|1,_|2,_|3,_|4,_|5,_|6,_|7,_|8,_|9,_=>rfl
 rw [e1]
 unfold Hg Uv
 rw [Rj f hf,Rj f hf,mI]
 have hand:n &&& (2^fW f - 1)=n:=by rw [EJ,Bv hn]
 rw [hand]
 unfold QP
 rw [Sq _ _ _ _ DF]
 by_cases e:k=fK f
 ·subst e
  rw [if_pos rfl,if_pos rfl,if_pos rfl,Ae,Ae]
 ·rw [if_neg e,if_neg e,if_neg e]
  have:=(GJ hr k).1
  simp;omega
theorem MV{f:Fld}(hf:Fr f){n:Nat}(hn:n<2^fW f){h:Head}(hr:EF h=true):EF (QP f h n)=true:=by
 have hd:=IW hf
 have hw:=GJ hr (fK f)
 have hlt:=AFx (W:=(EY h (fK f)).toNat) (s:=fS f) (w:=fW f) (n:=n) DF hn DF
 unfold QP
 refine Sy hr _ DF ?_
 omega
def wC(x y:Int):Int:=IntKind.i64.wrap (BitVec.ofInt 64 x &&& BitVec.ofInt 64 y).toNat
def orI(x y:Int):Int:=IntKind.i64.wrap (BitVec.ofInt 64 x ||| BitVec.ofInt 64 y).toNat
def ACM(x y:Int):Int:=IntKind.i64.wrap (BitVec.ofInt 64 x ^^^ BitVec.ofInt 64 y).toNat
def ux(x y:Int):Int:=IntKind.i64.wrap (BitVec.ofInt 64 x &&& ~~~ BitVec.ofInt 64 y).toNat
section
variable {P:Program} {t:TypeId} {k:IntKind} {x y:Int} {d:Tmp} {K:Kt} {e:Ee} {H:DM}
@[go_sem] theorem ASE:HS P .and t (.int .i64 x) (.int .i64 y) d K e H=K ((d,.int .i64 (wC x y))::e) H:=by
 rw [Fz];exact propext ⟨λh=>h.2,λh=>⟨rfl,h⟩⟩
@[go_sem] theorem AZF:HS P .or t (.int .i64 x) (.int .i64 y) d K e H=K ((d,.int .i64 (orI x y))::e) H:=by
 rw [Fz];exact propext ⟨λh=>h.2,λh=>⟨rfl,h⟩⟩
@[go_sem] theorem AR6:HS P .xor t (.int .i64 x) (.int .i64 y) d K e H=K ((d,.int .i64 (ACM x y))::e) H:=by
 rw [Fz];exact propext ⟨λh=>h.2,λh=>⟨rfl,h⟩⟩
@[go_sem] theorem ASD:HS P .andNot t (.int .i64 x) (.int .i64 y) d K e H=K ((d,.int .i64 (ux x y))::e) H:=by
 rw [Fz];exact propext ⟨λh=>h.2,λh=>⟨rfl,h⟩⟩
@[go_sem] theorem AR8:HS P .shr t (.int .i64 x) (.int k y) d K e H=(0<=y/\K ((d,.int .i64 (x.fdiv (2^(min y.toNat 64))))::e) H):=by
 rw [Fz];rfl
end
theorem Ie(a:Nat):BitVec.ofInt 64 (a:Int)=BitVec.ofNat 64 a:=by
 apply BitVec.eq_of_toInt_eq;simp
theorem WQ{a b:Nat}(ha:a<9223372036854775808)(hb:b<9223372036854775808):wC a b=((a &&& b:Nat):Int):=by
 have h1:a &&& b<2^63:=Di _ DF
 unfold wC
 rw [Ie,Ie,BitVec.toNat_and,BitVec.toNat_ofNat,BitVec.toNat_ofNat,Bv DF,Bv DF]
 exact NT DF DF
theorem rD{a b:Nat}(ha:a<9223372036854775808)(hb:b<9223372036854775808):orI a b=((a ||| b:Nat):Int):=by
 have h1:a ||| b<2^63:=ED DF DF
 unfold orI
 rw [Ie,Ie,BitVec.toNat_or,BitVec.toNat_ofNat,BitVec.toNat_ofNat,Bv DF,Bv DF]
 exact NT DF DF
theorem wi{a b:Nat}(ha:a<9223372036854775808)(hb:b<9223372036854775808):ACM a b=((a ^^^ b:Nat):Int):=by
 have h1:a ^^^ b<2^63:=Ca DF DF
 unfold ACM
 rw [Ie,Ie,BitVec.toNat_xor,BitVec.toNat_ofNat,BitVec.toNat_ofNat,Bv DF,Bv DF]
 exact NT DF DF
theorem V9{a b:Nat}(ha:a<9223372036854775808)(hb:b<9223372036854775808):ux a b=((a ^^^ (a &&& b):Nat):Int):=by
 have h1:a ^^^ (a &&& b)<2^63:=Ca DF (Di _ DF)
 have e:(BitVec.ofNat 64 a &&& ~~~ BitVec.ofNat 64 b)=BitVec.ofNat 64 a ^^^ (BitVec.ofNat 64 a &&& BitVec.ofNat 64 b):=by
  generalize BitVec.ofNat 64 a=u
  generalize BitVec.ofNat 64 b=v
  ext i hi
  simp only [BitVec.getElem_and,BitVec.getElem_not,BitVec.getElem_xor]
  cases u[i]<;>cases v[i]<;>rfl
 unfold ux
 rw [Ie,Ie,e,BitVec.toNat_xor,BitVec.toNat_and,BitVec.toNat_ofNat,BitVec.toNat_ofNat,Bv DF,Bv DF]
 exact NT DF DF
theorem ACa{a s:Nat}(hs:s<=64):(a:Int).fdiv (2^min s 64)=((a / 2^s:Nat):Int):=by
 rw [B7 hs,Int.fdiv_eq_ediv_of_nonneg _ (Int.pow_nonneg dc)]
 push_cast;rfl
theorem Kj(h:Head){k:Nat}(hk:k<10):h.c[k]? =some (.int .i64 (EY h k)):=by
 match k,hk with
 | 0,_|1,_|2,_|3,_|4,_|5,_|6,_|7,_|8,_|9,_=>rfl
theorem Wn(h:Head){k:Nat}(hk:k<10)(v:Int):splice h.c k [.int .i64 v]=(sf h k v).c:=by
 match k,hk with
 | 0,_|1,_|2,_|3,_|4,_|5,_|6,_|7,_|8,_|9,_=>rfl
theorem AAC{f:Fld}(hf:Fr f):IntKind.i64.wrap (f.at_.tdiv 16)=(fK f:Int)/\f.at_.tmod 16=f.at_ % 16/\IntKind.i64.wrap (IntKind.i64.wrap (16 - f.at_ % 16) - f.width)=(fS f:Int):=by
 have h:=hf
 unfold Fr at h
 have e1:f.at_.tdiv 16=f.at_ / 16:=Int.tdiv_eq_ediv_of_nonneg DF
 have e2:f.at_.tmod 16=f.at_ % 16:=Int.tmod_eq_emod_of_nonneg DF
 refine ⟨?_,e2, ?_⟩
 ·rw [e1,NT DF DF];unfold fK;omega
 ·rw [NT (n:=16 - f.at_ % 16) DF DF,NT DF DF];unfold fS;omega
theorem qz(f:Fld)(hf:Fr f):DR AA 204 [.agg f.c] (.int .i64 (fS f)):=by
 obtain ⟨d1,d2,d3⟩:=AAC hf
 have g16 : ¬((16:Int)=0):=dc
 refine pC AK4 rfl ?_
 simp only [Tryz.f204,go_sem,d2,d3,g16]
theorem QY{f:Fld}(hf:Fr f):JT f=((2^fW f - 1:Nat):Int):=by
 have h:=hf
 unfold Fr at h
 have hp : ∀ n:Nat,n<=16->W8 n=((2^n:Nat):Int):=by
  intro n
  induction n with
  | zero=>intro _;rfl
  | succ n ih =>
   intro hn
   rw [W8,ih DF]
   have:2^n<=2^16:=Bb dc DF
   unfold i64
   rw [Nat.pow_succ]
   generalize 2^n=z at this ⊢
   rw [NT DF DF]
   exact (Int.natCast_mul _ _).symm
 unfold JT
 rw [hp _ DF]
 have h1:2^f.width.toNat<=2^16:=Bb dc DF
 have h2:0<2^f.width.toNat:=Ba _
 unfold i64 fW
 rw [NT DF DF]
 omega
theorem li(f:Fld)(hf:Fr f)(h:Head)(hr:EF h=true):DR AA 135 [.agg f.c,.agg h.c] (.int .i64 (Mq f h)):=by
 obtain ⟨d1,d2,d3⟩:=AAC hf
 have hd:=IW hf
 have hw:=GJ hr (fK f)
 have i0:(0:Int)<=(fK f:Int):=DF
 have i1:(fK f:Int)<((10:Nat):Int):=DF
 have i2:=Kj h (show fK f<10 by omega)
 obtain ⟨W,hW⟩ : ∃ W:Nat,EY h (fK f)=(W:Int):=⟨(EY h (fK f)).toNat,DF⟩
 have hM:2^fW f<=2^16:=Bb dc DF
 have hD:W / 2^fS f<=W:=Nat.div_le_self _ _
 have g16 : ¬((16:Int)=0):=dc
 have g0:(0:Int)<=(fS f:Int):=DF
 have c1:=qz f hf
 have c2:=rA f (by have:=hf;unfold Fr at this;omega) (by have:=hf;unfold Fr at this;omega)
 have e1:(W:Int).fdiv (2^min (fS f) 64)=((W / 2^fS f:Nat):Int):=ACa DF
 have e2:wC ((W / 2^fS f:Nat):Int) ((2^fW f - 1:Nat):Int)=(Mq f h:Nat):=by
  rw [WQ DF DF,EJ]
  unfold Mq;rw [hW,Ae]
 rw [QY hf] at c2
 rw [hW] at i2
 refine pC AOB rfl ?_
 simp only [Tryz.f135,go_sem,d1,d2,d3,i0,i1,i2,g16,Ae]
 repeat' (first
  | ((first|refine pK (c1) ?_|refine pK (c2) ?_);simp only [go_sem,d1,d2,d3,i0,i1,i2,g16,g0,e1,e2,Ae])
  | ((first|apply cS|apply gS)<;>(intro hc;simp only [go_sem,hc,d1,d2,d3,i0,i1,i2,g16,g0,e1,e2,Ae])))
theorem lh(f:Fld)(hf:Fr f)(h:Head)(hr:EF h=true)(n:Nat)(hn:n<2^fW f):DR AA 203 [.agg f.c,.agg h.c,.int .i64 n] (.agg (QP f h n).c):=by
 obtain ⟨d1,d2,d3⟩:=AAC hf
 have hd:=IW hf
 have hw:=GJ hr (fK f)
 have i0:(0:Int)<=(fK f:Int):=DF
 have i1:(fK f:Int)<((10:Nat):Int):=DF
 have i2:=Kj h (show fK f<10 by omega)
 obtain ⟨W,hW⟩ : ∃ W:Nat,EY h (fK f)=(W:Int):=⟨(EY h (fK f)).toNat,DF⟩
 have hM:2^fW f<=2^16:=Bb dc DF
 have g16 : ¬((16:Int)=0):=dc
 have g0:(0:Int)<=(fS f:Int):=DF
 have c1:=qz f hf
 have c2:=rA f (by have:=hf;unfold Fr at this;omega) (by have:=hf;unfold Fr at this;omega)
 have hsh : ∀ x,x<2^fW f->x <<< fS f<65536:=by
  intro x hx
  rw [Dj]
  calc x*2^fS f<2^fW f*2^fS f:=EE hx (Ba _)
   _=2^(fS f+fW f):=by rw [CE,Nat.pow_add]
   _<=2^16:=Bb dc DF
 have hp:0<2^fW f:=Ba _
 have hk9:fK f<=9:=DF
 have s1:=hsh (2^fW f - 1) DF
 have s2:=hsh n hn
 have hshl : ∀ x:Nat,x <<< fS f<65536->IntKind.i64.wrap ((x:Int)*2^(min (fS f) 64))=((x <<< fS f:Nat):Int):=by
  intro x hx
  have e:min (fS f) 64=fS f:=B7 DF
  have e2:(x:Int)*2^(min (fS f) 64)=((x <<< fS f:Nat):Int):=by
   rw [e,Dj];push_cast;rfl
  rw [e2]
  generalize x <<< fS f=z at hx ⊢
  exact NT DF DF
 have e1:=hshl _ s1
 have e2:=hshl _ s2
 have e3:ux (W:Int) (((2^fW f - 1) <<< fS f:Nat):Int)=((W ^^^ (W &&& ((2^fW f - 1) <<< fS f)):Nat):Int):=V9 DF DF
 have hlow:W ^^^ (W &&& ((2^fW f - 1) <<< fS f))<2^16:=iw DF DF
 have e4:orI ((W ^^^ (W &&& ((2^fW f - 1) <<< fS f)):Nat):Int) ((n <<< fS f:Nat):Int)=(((W ^^^ (W &&& ((2^fW f - 1) <<< fS f))) ||| (n <<< fS f):Nat):Int):=rD DF DF
 have e5:splice h.c (fK f) [.int .i64 (((W ^^^ (W &&& ((2^fW f - 1) <<< fS f))) ||| (n <<< fS f):Nat):Int)]=(QP f h n).c:=by
  rw [Wn h DF];unfold QP;rw [hW,Ae]
 rw [QY hf] at c2
 rw [hW] at i2
 refine pC AK7 rfl ?_
 simp only [Tryz.f203,go_sem,d1,d2,d3,i0,i1,i2,g16,Ae]
 repeat' (first
  | ((first|refine pK (c1) ?_|refine pK (c2) ?_);simp only [go_sem,d1,d2,d3,i0,i1,i2,g16,g0,e1,e2,e3,e4,e5,hk9,Ae])
  | ((first|apply cS|apply gS)<;>(intro hc;simp only [go_sem,hc,d1,d2,d3,i0,i1,i2,g16,g0,e1,e2,e3,e4,e5,hk9,Ae])))
end Go.AI
namespace Go.AI
open Go.Proofs
set_option maxRecDepth 50000
theorem dq(f:Fld)(hf:Fr f)(n m:Nat)(hn:n<2^fW f)(hm:m<=fW f):DR AA 134 [.agg f.c,.int .i64 n,.int .i64 m] (.agg (Uv f n m).c):=by
 have h:=hf
 unfold Fr at h
 have hw:f.width=(fW f:Int):=by unfold fW;omega
 have hd:=IW hf
 have hz:EF Head.z=true:=dc
 have hM:2^fW f<=2^16:=Bb dc DF
 have hM2:2^(fW f - m)<=2^16:=Bb dc DF
 have hp:0<2^(fW f - m):=Ba _
 have hmk:=ep (fW f) m
 have hnm:n &&& KN (fW f) m<2^fW f:=CX DI hn
 have c1:=rA f DF DF
 rw [QY hf] at c1
 have c2:=lh f hf Head.z hz (KN (fW f) m) hmk
 have c3:=lh f hf Head.z hz (n &&& KN (fW f) m) hnm
 have g0:(0:Int)<=((fW f - m:Nat):Int):=DF
 have e1:IntKind.i64.wrap (f.width - (m:Int))=((fW f - m:Nat):Int):=by rw [NT DF DF];omega
 have e2:IntKind.i64.wrap (1*2^(min (fW f - m) 64))=((2^(fW f - m):Nat):Int):=by
  rw [B7 DF]
  have:(1:Int)*2^(fW f - m)=((2^(fW f - m):Nat):Int):=by rw [Int.one_mul];push_cast;rfl
  rw [this]
  generalize 2^(fW f - m)=z at hM2 ⊢
  exact NT DF DF
 have e3:IntKind.i64.wrap (((2^(fW f - m):Nat):Int) - 1)=((2^(fW f - m) - 1:Nat):Int):=by
  generalize 2^(fW f - m)=z at hM2 hp ⊢
  rw [NT DF DF];omega
 have e4:ux ((2^fW f - 1:Nat):Int) ((2^(fW f - m) - 1:Nat):Int)=(KN (fW f) m:Nat):=by
  rw [V9 DF DF];rfl
 have e5:wC (n:Int) ((KN (fW f) m:Nat):Int)=((n &&& KN (fW f) m:Nat):Int):=WQ DF DF
 refine pC AOE rfl ?_
 simp only [Tryz.f134,go_sem,e1,Ae]
 repeat' (first
  | ((first|refine pK (c1) ?_|refine pK (c2) ?_|refine pK (c3) ?_);simp only [go_sem,e1,e2,e3,e4,e5,g0,Ae])
  | ((first|apply cS|apply gS)<;>(intro hc;simp only [go_sem,hc,e1,e2,e3,e4,e5,g0,Ae])))
 rfl
theorem rC(f:Fld)(hf:Fr f)(n:Nat)(hn:n<2^fW f):DR AA 133 [.agg f.c,.int .i64 n] (.agg (Uv f n (fW f)).c):=by
 have h:=hf
 unfold Fr at h
 have hw:f.width=(fW f:Int):=by unfold fW;omega
 have c1:=dq f hf n (fW f) hn (Nat.le_refl _)
 refine pC AOH rfl ?_
 simp only [Tryz.f133,go_sem,hw]
 repeat' (first
  | (refine pK (c1) ?_;simp only [go_sem,hw])
  | ((first|apply cS|apply gS)<;>(intro hc;simp only [go_sem,hc,hw])))
theorem AS4(f:Fld)(hf:Fr f)(n:Nat)(hn:n<2^fW f):DR AA 138 [.agg f.c,.int .i64 n] (.agg (Uv f n (fW f)).c):=by
 have c1:=rC f hf n hn
 refine pC AN2 rfl ?_
 simp only [Tryz.f138,go_sem]
 repeat' (first
  | (refine pK (c1) ?_;simp only [go_sem])
  | ((first|apply cS|apply gS)<;>(intro hc;simp only [go_sem,hc])))
theorem TK(p:Pat){k:Nat}(hk:k<10):p.c[k]? =some (.int .i64 (EY p.mask k)):=by
 match k,hk with
 | 0,_|1,_|2,_|3,_|4,_|5,_|6,_|7,_|8,_|9,_=>rfl
theorem TL(p:Pat){k:Nat}(hk:k<10):p.c[10+k]? =some (.int .i64 (EY p.bits k)):=by
 match k,hk with
 | 0,_|1,_|2,_|3,_|4,_|5,_|6,_|7,_|8,_|9,_=>rfl
theorem rB(p:Pat)(hm:EF p.mask=true)(hb:EF p.bits=true)(h:Head)(hr:EF h=true):DR AA 132 [.agg p.c,.agg h.c] (.bool (mH p h)):=by
 refine pC AOK rfl ?_
 simp only [Tryz.f132,go_sem]
 refine EP (List.range 10) (λr=>r.all λi=>(((EY p.bits i).toNat ^^^ (EY h i).toNat) &&& (EY p.mask i).toNat)==0) (λk=>[(2,.ptr 0 0),(3,.ptr 1 0),(6,.int .i64 k)]) dc rfl ?_ ?_
 ·intro k y ys hd hx hF h0 h1 hw
  have hk:k<10:=by
   have:=(AD.1 hx).1
   simpa using this
  have hy:y=k:=by
   have:=hx
   rw [List.getElem?_range hk] at this
   exact (Option.some.inj this).symm
  subst hy
  have i0:(0:Int)<=(y:Int):=DF
  have i1:(y:Int)<((10:Nat):Int):=DF
  have a1:=TK p hk
  have a2:=TL p hk
  have a3:=Kj h hk
  have w1:=GJ hm y
  have w2:=GJ hb y
  have w3:=GJ hr y
  obtain ⟨A,hA⟩ : ∃ W:Nat,EY p.mask y=(W:Int):=⟨(EY p.mask y).toNat,DF⟩
  obtain ⟨B,hB⟩ : ∃ W:Nat,EY p.bits y=(W:Int):=⟨(EY p.bits y).toNat,DF⟩
  obtain ⟨C,hC⟩ : ∃ W:Nat,EY h y=(W:Int):=⟨(EY h y).toNat,DF⟩
  rw [hA] at a1 w1
  rw [hB] at a2 w2
  rw [hC] at a3 w3
  have hx1:B ^^^ C<2^16:=Ca DF DF
  have e1:ACM (B:Int) (C:Int)=((B ^^^ C:Nat):Int):=wi DF DF
  have e2:wC ((B ^^^ C:Nat):Int) (A:Int)=(((B ^^^ C) &&& A:Nat):Int):=WQ DF DF
  have i2:(y:Int)<10:=DF
  have eq:((((EY p.bits y).toNat ^^^ (EY h y).toNat) &&& (EY p.mask y).toNat)==0) = !(((((B ^^^ C) &&& A:Nat):Int)) !=0):=by
   rw [hA,hB,hC,Ae,Ae,Ae]
   generalize (B ^^^ C) &&& A=z
   cases z<;>rfl
  rw [Ak,eq] at hF
  simp only [go_sem,h0,h1,i0,i1,i2,decide_true,Ae,a1,a2,a3,e1,e2]
  repeat' (first
   | ((first|apply cS|apply gS)<;>(intro hc;simp only [go_sem,hc,h0,h1,hw,i0,i1,i2,decide_true,Ae,a1,a2,a3,e1,e2])))
  ·rw [hc] at hF
   exact congrArg AV.bool (hF.trans rfl).symm
  ·rw [Ak,eq,hc];rfl
 ·intro hF hlt
  have g:decide (((10:Nat):Int)<10)=false:=dc
  simp only [go_sem,List.length_range,g]
  exact congrArg AV.bool (hF.trans rfl).symm
def M0(p:Pat)(h:Head)(n:Nat):Head :=
 let w:=λk=>if k<n then Hg p h k else EY h k
 ⟨w 0,w 1,w 2,w 3,w 4,w 5,w 6,w 7,w 8,w 9⟩
theorem pu(p:Pat)(h:Head):M0 p h 10=bI p h:=rfl
theorem vj(p:Pat)(h:Head){k:Nat}(hk:k<10):sf (M0 p h k) k (Hg p h k)=M0 p h (k+1):=by
 match k,hk with
 | 0,_|1,_|2,_|3,_|4,_|5,_|6,_|7,_|8,_|9,_=>rfl
theorem vi(p:Pat)(h:Head){k:Nat}(hk:k<10):EY (M0 p h k) k=EY h k:=by
 match k,hk with
 | 0,_|1,_|2,_|3,_|4,_|5,_|6,_|7,_|8,_|9,_=>rfl
theorem AC2(p:Pat)(hm:EF p.mask=true)(hb:EF p.bits=true)(h:Head)(hr:EF h=true):DR AA 137 [.agg p.c,.agg h.c] (.agg (bI p h).c):=by
 refine pC AN5 rfl ?_
 simp only [Tryz.f137,go_sem]
 refine bC 10 (λk=>[(2,.ptr 0 0),(3,.ptr 1 0),(4,.ptr 2 0),(6,.int .i64 k)]) (λk=>[some p.c,some (M0 p h k).c,some Head.z.c]) rfl rfl ?_
 intro y hy
 by_cases hk:y<10
 ·have i0:(0:Int)<=(y:Int):=DF
  have i1:(y:Int)<((10:Nat):Int):=DF
  have i2:(y:Int)<10:=DF
  have a1:=TK p hk
  have a2:=TL p hk
  have a3:=Kj (M0 p h y) hk
  rw [vi p h hk] at a3
  have hw:=Ln (k:=y) DF
  have w1:=GJ hm y
  have w2:=GJ hb y
  have w3:=GJ hr y
  have st:=Wn (M0 p h y) hk (Hg p h y)
  rw [vj p h hk] at st
  have hap:Hg p h y=((((EY h y).toNat ^^^ ((EY h y).toNat &&& (EY p.mask y).toNat)) ||| (EY p.bits y).toNat:Nat):Int):=rfl
  obtain ⟨A,hA⟩ : ∃ W:Nat,EY p.mask y=(W:Int):=⟨(EY p.mask y).toNat,DF⟩
  obtain ⟨B,hB⟩ : ∃ W:Nat,EY p.bits y=(W:Int):=⟨(EY p.bits y).toNat,DF⟩
  obtain ⟨C,hC⟩ : ∃ W:Nat,EY h y=(W:Int):=⟨(EY h y).toNat,DF⟩
  rw [hA,hB,hC,Ae,Ae,Ae] at hap
  rw [hA] at a1 w1
  rw [hB] at a2 w2
  rw [hC] at a3 w3
  have hl:=iw (W:=C) (M:=A) DF DF
  have e1:ux (C:Int) (A:Int)=((C ^^^ (C &&& A):Nat):Int):=V9 DF DF
  have e2:orI ((C ^^^ (C &&& A):Nat):Int) (B:Int)=Hg p h y:=by rw [hap];exact rD DF DF
  have hk9:y<=9:=DF
  simp only [go_sem,i0,i1,i2,decide_true,Ae,a1,a2,a3,e1,e2,st,hw,hk9]
  exact hk
 ·have:y=10:=DF
  subst this
  have g:decide (((10:Nat):Int)<10)=false:=dc
  simp only [go_sem,g,pu]
theorem o6(a b:Head): ∀ k,k<=10->Kb (a.l.drop k) (b.l.drop k)=if k<10 then (if EY a k<EY b k then -1 else if EY b k<EY a k then 1 else Kb (a.l.drop (k+1)) (b.l.drop (k+1))) else 0:=by
 intro k hk
 match k,hk with
 | 0,_|1,_|2,_|3,_|4,_|5,_|6,_|7,_|8,_|9,_=>rfl
 | 10,_=>rfl
def Py(fs:List (Head->Bool))(k:Nat)(h:Head):Bool:=((fs[k]?).map λf=>f h).getD false
def NH(fs:List (Head->Option (List Head)))(k:Nat)(h:Head):Option (List Head):=((fs[k]?).map λf=>f h).getD none
def AEo(l:List Fld)(t k:Int)(f:ByteArray)(n m:Int)(fs:List (Head->Bool))(h:Head):Bool :=
 if k=1 then true else if k=2 then false else if k=9 then decide (n<=t)&&decide (t<m)
 else if k=6 then !Py fs 0 h else if k=7 then Py fs 0 h&&Py fs 1 h else if k=8 then Py fs 0 h||Py fs 1 h
 else if k=3 then decide ((Mq (EO l f).1 h:Int)=n)
 else if k=4 then decide (Mq (EO l f).1 h / 2^(fW (EO l f).1 - m.toNat)=n.toNat / 2^(fW (EO l f).1 - m.toNat))
 else decide (n<=Mq (EO l f).1 h)&&decide ((Mq (EO l f).1 h:Int)<=m)
mutual
def hP(l:List Fld)(t:Int):Pred->Head->Bool
 | ⟨k,f,n,m,xs⟩=>AEo l t k f n m (mr l t xs)
def mr(l:List Fld)(t:Int):List Pred->List (Head->Bool)
 | []=>[]
 | x::r=>hP l t x::mr l t r
end
theorem ATG(l:List Fld)(t:Int)(x:Pred):hP l t x=AEo l t x.kind x.field x.n x.m (mr l t x.args):=by cases x;rw [hP]
theorem zQ(l:List Fld)(t:Int): ∀ r:List Pred,mr l t r=r.map (hP l t)
 | []=>by rw [mr];rfl
 | x::r=>by rw [mr,zQ l t r];rfl
theorem mq(l:List Fld)(t:Int){r:List Pred}{k:Nat}{x:Pred}(hx:r[k]? =some x)(h:Head):Py (mr l t r) k h=hP l t x h:=by
 rw [zQ,Py,Ac,hx];rfl
def WJ(r:List Head):Option (List Head):=if 256<r.length then none else some r
def Uh(l:List Fld)(t k:Int)(p:Pred)(f:ByteArray)(n:Int)(fs:List (Head->Option (List Head)))(h:Head):Option (List Head) :=
 if k=1 then some (if hP l t p h then [h] else [])
 else if k=2 then some [QP (EO l f).1 h n.toNat]
 else if k=3 then match NH fs 0 h,NH fs 1 h with
  | some a,some b=>WJ (Fb a b)
  | _,_=>none
 else if k=4 then match NH fs 0 h with
  | some a=>IG (NH fs 1) [] a
  | none=>none
 else J9 (NH fs 0) 300 [h] [h]
mutual
def vO(l:List Fld)(t:Int):Policy->Head->Option (List Head)
 | ⟨k,p,f,n,xs⟩=>Uh l t k p f n (Ww l t xs)
def Ww(l:List Fld)(t:Int):List Policy->List (Head->Option (List Head))
 | []=>[]
 | x::r=>vO l t x::Ww l t r
end
theorem AEk(l:List Fld)(t:Int)(x:Policy):vO l t x=Uh l t x.kind x.pred x.field x.n (Ww l t x.args):=by cases x;rw [vO]
theorem wv(l:List Fld)(t:Int): ∀ r:List Policy,Ww l t r=r.map (vO l t)
 | []=>by rw [Ww];rfl
 | x::r=>by rw [Ww,wv l t r];rfl
theorem Rf(l:List Fld)(t:Int){r:List Policy}{k:Nat}{x:Policy}(hx:r[k]? =some x):NH (Ww l t r) k=vO l t x:=by
 funext h
 rw [wv,NH,Ac,hx];rfl
def Hu(r:List Head):Prop:=KT r/\r.length<=256 /\ ∀ z∈r,EF z=true
theorem Ki:Hu []:=⟨xI,dc,sm⟩
theorem Og{h:Head}(hr:EF h=true):Hu [h]:=⟨cz h,sm,by simpa using hr⟩
theorem HX{a b:List Head}(ha:Hu a)(hb : ∀ z∈b,EF z=true)(hl : ¬ 256<(Fb a b).length):Hu (Fb a b):=by
 refine ⟨Pa b ha.1,DF,λz hz=>?_⟩
 rcases (Pi z b a).1 hz with h|h
 ·exact ha.2.2 z h
 ·exact hb z h
theorem Oh{f:Head->Option (List Head)}(hf : ∀ h r,EF h=true->f h=some r->Hu r): ∀ (xs o r:List Head),Hu o->(∀ z∈xs,EF z=true)->IG f o xs=some r->Hu r
 | [],o,r,ho,_,e=>by
  rw [IG] at e
  cases e;exact ho
 | x::xs,o,r,ho,hx,e=>by
  rw [IG] at e
  cases hfx:f x with
  | none=>rw [hfx] at e;cases e
  | some a =>
   rw [hfx] at e
   dsimp only at e
   have ga:=hf x a (hx x sm) hfx
   by_cases hl:256<(Fb o a).length
   ·rw [if_pos hl] at e;cases e
   ·rw [if_neg hl] at e
    exact Oh hf xs _ r (HX ho ga.2.2 hl) (λz hz=>hx z (by simp [hz])) e
theorem U9{o n:List Head}{z:Head}:z∈HD o n↔z∈n/\z∉o:=by
 unfold HD
 rw [List.mem_filter]
 constructor
 ·rintro ⟨h1,h2⟩
  refine ⟨h1,λhc=>?_⟩
  have:(o.any λy=>decide (y=z))=true:=CZ.2 ⟨z,hc,sm⟩
  rw [this] at h2;cases h2
 ·rintro ⟨h1,h2⟩
  refine ⟨h1, ?_⟩
  have:(o.any λy=>decide (y=z))=false:=by
   rw [Bk]
   intro y hy
   simp
   intro e;subst e;exact h2 hy
  rw [this];rfl
theorem Y1{f:Head->Option (List Head)}(hf : ∀ h r,EF h=true->f h=some r->Hu r): ∀ (k:Nat) (o n r:List Head),Hu o->(∀ z∈n,EF z=true)->J9 f k o n=some r->Hu r
 | 0,o,n,r,_,_,e=>by rw [J9] at e;cases e
 | k+1,o,n,r,ho,hn,e=>by
  rw [J9] at e
  by_cases h0:n=[]
  ·rw [if_pos h0] at e;cases e;exact ho
  ·rw [if_neg h0] at e
   cases hi:IG f [] n with
   | none=>rw [hi] at e;cases e
   | some m =>
    rw [hi] at e
    dsimp only at e
    have gm:=Oh hf n [] m Ki hn hi
    have gn : ∀ z∈HD o m,EF z=true:=λz hz=>gm.2.2 z (U9.1 hz).1
    by_cases hl:256<(Fb o (HD o m)).length
    ·rw [if_pos hl] at e;cases e
    ·rw [if_neg hl] at e
     exact Y1 hf k _ _ r (HX ho gn hl) gn e
theorem dV(h:Head): ∀ {l:List Head},h∉l->(NG h l).length=l.length+1
 | [],_=>rfl
 | x::r,hn=>by
  rw [NG]
  have h1 : ¬ x=h:=λe=>hn (by simp [e])
  have h2:h∉r:=λe=>hn (by simp [e])
  split
  ·rw [AC,dV h h2];rfl
  ·rfl
theorem tf{o n:List Head}(h:HD o n≠[]):o.length<(Fb o (HD o n)).length:=by
 cases hc:HD o n with
 | nil=>exact absurd hc h
 | cons x r =>
  have hx:x∉o:=(U9.1 (by rw [hc];simp:x∈HD o n)).2
  have e:Fb o (x::r)=Fb (NG x o) r:=rfl
  have:=(VC r (NG x o)).1
  rw [dV x hx] at this
  rw [e];omega
def Hl(l:List Fld):Prop:=∀ f∈l,Fr f
theorem mD:Fr IO:=by unfold Fr IO;decide
theorem HU{l:List Fld}(hl:Hl l){s:ByteArray}(h:(EO l s).2=true):Fr (EO l s).1:=by
 unfold EO at h ⊢
 split
 ·exact mD
 ·rename_i hs
  rw [if_neg hs] at h
  cases hf:l.find? (λf=>decide (f.name=s)) with
  | none=>rw [hf] at h;cases h
  | some f=>exact hl f (List.mem_of_find?_eq_some hf)
theorem ud{l:List Fld}{x y:Pred}(hx:Gw l x)(hy:y∈x.args):Gw l y:=by
 obtain ⟨h1,h2⟩:=hx
 rw [GO,AR] at h1
 have hf : ∀ r:List Pred,Vt r=true -> ∀ z∈r,MP z=true:=by
  intro r
  induction r with
  | nil=>intro _ z hz;cases hz
  | cons a r ih =>
   intro h z hz
   rw [Jb,AR] at h
   rcases AZ.1 hz with rfl|hz
   ·exact h.1
   ·exact ih h.2 z hz
 refine ⟨hf _ h1.2 y hy,λz hz=>h2 z ?_⟩
 have hs : ∀ r:List Pred,y∈r->z∈Ls r:=by
  intro r
  induction r with
  | nil=>intro h;cases h
  | cons a r ih =>
   intro h
   rw [IV]
   rcases AZ.1 h with rfl|h
   ·exact C8 _ hz
   ·exact Dl _ (ih h)
 rw [KW]
 exact B9 _ (hs _ hy)
def AWQ(l:List Fld)(x:Pred):Prop:=(EO l x.field).2=true/\Fr (EO l x.field).1/\0<=x.n/\x.n.toNat<2^fW (EO l x.field).1
theorem QX{f:Fld}(hf:Fr f):JT f=((2^fW f - 1:Nat):Int):=by
 have h:=hf
 unfold Fr at h
 have : ∀ k:Nat,k<17->i64 (W8 k - 1)=((2^k - 1:Nat):Int):=dc
 exact this _ DF
theorem oN{l:List Fld}(hl:Hl l){x:Pred}(hx:Gw l x):
  (x.kind=1)\/(x.kind=2)\/(x.kind=9)\/(x.kind=6 /\ ∃ a,x.args=[a]/\Gw l a)\/((x.kind=7\/x.kind=8) /\ ∃ a b,x.args=[a,b]/\Gw l a/\Gw l b) \/
  (x.kind=3/\AWQ l x)\/(x.kind=4/\AWQ l x/\0<=x.m/\x.m.toNat<=fW (EO l x.field).1)\/(x.kind=5/\(EO l x.field).2=true/\Fr (EO l x.field).1/\0<=x.n/\x.n<=x.m/\x.m.toNat<2^fW (EO l x.field).1):=by
 have hfit:=hx.2 x (by rw [KW];simp)
 have harg:=λy hy=>ud (y:=y) hx hy
 have hfm:=hx.1
 rw [GO,AR,AR,beq_iff_eq] at hfm
 obtain ⟨⟨hok,hlen⟩,_⟩:=hfm
 unfold R1 at hok hlen
 unfold O1 at hfit
 by_cases k1:x.kind=1
 ·exact .inl k1
 by_cases k2:x.kind=2
 ·exact .inr (.inl k2)
 rw [if_neg (by simp [k1,k2])] at hok hlen
 by_cases k3:x.kind=3
 ·rw [if_pos k3] at hok
  rw [if_neg (by simp [k3])] at hfit
  by_cases hf:(EO l x.field).2=false
  ·rw [if_pos hf] at hfit;cases hfit
  ·rw [if_neg hf,if_neg (by omega : ¬ x.kind=5)] at hfit
   have hft:(EO l x.field).2=true:=by simpa using hf
   have hfo:=HU hl hft
   rw [QX hfo] at hfit
   have hp:=Ba (fW (EO l x.field).1)
   simp [MO] at hok
   refine .inr (.inr (.inr (.inr (.inr (.inl ⟨k3,hft,hfo,hok.2.1.1, ?_⟩)))))
   split at hfit
   ·cases hfit
   ·omega
 rw [if_neg k3] at hok hlen
 by_cases k4:x.kind=4
 ·rw [if_pos k4] at hok
  rw [if_neg (by simp [k4])] at hfit
  by_cases hf:(EO l x.field).2=false
  ·rw [if_pos hf] at hfit;cases hfit
  ·rw [if_neg hf,if_neg (by omega : ¬ x.kind=5)] at hfit
   have hft:(EO l x.field).2=true:=by simpa using hf
   have hfo:=HU hl hft
   have hfo':=hfo
   unfold Fr at hfo'
   rw [QX hfo] at hfit
   have hp:=Ba (fW (EO l x.field).1)
   have hW:fW (EO l x.field).1=(EO l x.field).1.width.toNat:=rfl
   simp [MO] at hok
   refine .inr (.inr (.inr (.inr (.inr (.inr (.inl ⟨k4,⟨hft,hfo,hok.2.1.1, ?_⟩,hok.2.2.1, ?_⟩))))))
   ·split at hfit
    ·cases hfit
    ·omega
   ·split at hfit
    ·cases hfit
    ·omega
 rw [if_neg k4] at hok hlen
 by_cases k5:x.kind=5
 ·rw [if_pos k5] at hok
  rw [if_neg (by simp [k5])] at hfit
  by_cases hf:(EO l x.field).2=false
  ·rw [if_pos hf] at hfit;cases hfit
  ·rw [if_neg hf,if_pos k5] at hfit
   have hft:(EO l x.field).2=true:=by simpa using hf
   have hfo:=HU hl hft
   rw [QX hfo] at hfit
   have hp:=Ba (fW (EO l x.field).1)
   simp at hok
   refine .inr (.inr (.inr (.inr (.inr (.inr (.inr ⟨k5,hft,hfo,hok.2.1,hok.2.2.1, ?_⟩))))))
   split at hfit
   ·cases hfit
   ·omega
 rw [if_neg k5] at hok hlen
 by_cases k6:x.kind=6
 ·rw [if_pos k6] at hlen
  refine .inr (.inr (.inr (.inl ⟨k6, ?_⟩)))
  match hxa:x.args,hlen with
  | [a],_=>exact ⟨a,rfl,harg a (by rw [hxa];simp)⟩
 rw [if_neg k6] at hok hlen
 by_cases k7:x.kind=7\/x.kind=8
 ·rw [if_pos k7] at hlen
  refine .inr (.inr (.inr (.inr (.inl ⟨k7, ?_⟩))))
  match hxa:x.args,hlen with
  | [a,b],_=>exact ⟨a,b,rfl,harg a (by rw [hxa];simp),harg b (by rw [hxa];simp)⟩
 rw [if_neg k7] at hok hlen
 by_cases k9:x.kind=9
 ·exact .inr (.inr (.inl k9))
 rw [if_neg k9] at hok
 cases hok
def sq:Option (List Head)->AV
 | some r => .tup [.sl none (En r),.int .i64 0]
 | none => .tup [.sl none [],.int .i64 2]
@[go_sem] theorem ARk(o:Option (List Head)):(sq o).pure=true:=by
 cases o<;>simp [sq,AV.pure,DY,go_sem]
@[go_sem] theorem ARj(r:List Head):sq (some r) = .tup [.sl none (En r),.int .i64 0]:=rfl
@[go_sem] theorem ARl:sq none = .tup [.sl none [],.int .i64 2]:=rfl
theorem ye(o n:List Head):(HD o n).length<=n.length:=List.length_filter_le _ _
theorem ue{l:List Fld}{x y:Policy}(hx:GM l x)(hy:y∈x.args):GM l y:=by
 obtain ⟨h1,h2⟩:=hx
 rw [G7,AR] at h1
 have hf : ∀ r:List Policy,Vu r=true -> ∀ z∈r,Qz z=true:=by
  intro r
  induction r with
  | nil=>intro _ z hz;cases hz
  | cons a r ih =>
   intro h z hz
   rw [Jc,AR] at h
   rcases AZ.1 hz with rfl|hz
   ·exact h.1
   ·exact ih h.2 z hz
 refine ⟨hf _ h1.2 y hy,λz hz=>h2 z ?_⟩
 have hs : ∀ r:List Policy,y∈r->z∈LK r:=by
  intro r
  induction r with
  | nil=>intro h;cases h
  | cons a r ih =>
   intro h
   rw [HT]
   rcases AZ.1 h with rfl|h
   ·exact C8 _ hz
   ·exact Dl _ (ih h)
 rw [Jo]
 exact B9 _ (hs _ hy)
theorem Vs{l:List Fld}(hl:Hl l){x:Policy}(hx:GM l x):
  (x.kind=1/\Gw l x.pred)\/(x.kind=2/\Fr (EO l x.field).1/\(EO l x.field).2=true/\0<=x.n/\x.n.toNat<2^fW (EO l x.field).1) \/
  ((x.kind=3\/x.kind=4) /\ ∃ a b,x.args=[a,b]/\GM l a/\GM l b)\/(x.kind=5 /\ ∃ a,x.args=[a]/\GM l a):=by
 have hfit:=hx.2 x (by rw [Jo];simp)
 have harg:=λy hy=>ue (y:=y) hx hy
 have hfm:=hx.1
 rw [G7,AR,AR,beq_iff_eq] at hfm
 obtain ⟨⟨hok,hlen⟩,_⟩:=hfm
 unfold U7 at hok hlen
 unfold QU at hfit
 by_cases k1:x.kind=1
 ·rw [if_pos k1] at hok hfit
  rw [AR] at hok
  exact .inl ⟨k1,hok.1,(Oj l _).1 hfit⟩
 rw [if_neg k1] at hok hlen hfit
 by_cases k2:x.kind=2
 ·rw [if_pos k2] at hok hfit
  by_cases hf:(EO l x.field).2=false
  ·rw [if_pos hf] at hfit;cases hfit
  ·rw [if_neg hf] at hfit
   have hft:(EO l x.field).2=true:=by simpa using hf
   have hfo:=HU hl hft
   rw [QX hfo] at hfit
   have hp:=Ba (fW (EO l x.field).1)
   simp [MO] at hok
   refine .inr (.inl ⟨k2,hfo,hft,hok.2.2.1, ?_⟩)
   split at hfit
   ·cases hfit
   ·omega
 rw [if_neg k2] at hok hlen
 by_cases k3:x.kind=3\/x.kind=4
 ·rw [if_pos k3] at hlen
  refine .inr (.inr (.inl ⟨k3, ?_⟩))
  match hxa:x.args,hlen with
  | [a,b],_=>exact ⟨a,b,rfl,harg a (by rw [hxa];simp),harg b (by rw [hxa];simp)⟩
 rw [if_neg k3] at hok hlen
 by_cases k5:x.kind=5
 ·rw [if_pos k5] at hlen
  refine .inr (.inr (.inr ⟨k5, ?_⟩))
  match hxa:x.args,hlen with
  | [a],_=>exact ⟨a,rfl,harg a (by rw [hxa];simp)⟩
 rw [if_neg k5] at hok
 cases hok
theorem QK(l:List Fld)(hl:Hl l)(t:Int): ∀ x:Policy,GM l x -> ∀ h r,EF h=true->vO l t x h=some r->Hu r:=by
 refine GR _ λx ih=>λhx h r hr e=>?_
 rw [AEk] at e
 unfold Uh at e
 rcases Vs hl hx with ⟨k,gp⟩|⟨k,hfo,hft,hn,hn2⟩|⟨k,a,b,ha,ga,gb⟩|⟨k,a,ha,ga⟩
 ·rw [if_pos k] at e
  have e2:=Option.some.inj e
  by_cases hb:hP l t x.pred h=true
  ·rw [if_pos hb] at e2;rw [<- e2];exact Og hr
  ·rw [if_neg hb] at e2;rw [<- e2];exact Ki
 ·rw [if_neg DF,if_pos k] at e
  cases e
  exact Og (MV hfo hn2 hr)
 ·have e0:NH (Ww l t x.args) 0=vO l t a:=Rf l t (by rw [ha];rfl)
  have e1:NH (Ww l t x.args) 1=vO l t b:=Rf l t (by rw [ha];rfl)
  rw [e0,e1] at e
  have ih0:=ih a (by rw [ha];simp) ga
  have ih1:=ih b (by rw [ha];simp) gb
  rcases k with k|k
  ·rw [if_neg DF,if_neg DF,if_pos k] at e
   cases hva:vO l t a h with
   | none=>rw [hva] at e;cases e
   | some u =>
    cases hvb:vO l t b h with
    | none=>rw [hva,hvb] at e;cases e
    | some v =>
     rw [hva,hvb] at e
     dsimp only [WJ] at e
     by_cases hc:256<(Fb u v).length
     ·rw [if_pos hc] at e;cases e
     ·rw [if_neg hc] at e;cases e
      exact HX (ih0 h u hr hva) (ih1 h v hr hvb).2.2 hc
  ·rw [if_neg DF,if_neg DF,if_neg DF,if_pos k] at e
   cases hva:vO l t a h with
   | none=>rw [hva] at e;cases e
   | some u =>
    rw [hva] at e
    exact Oh ih1 u [] r Ki (ih0 h u hr hva).2.2 e
 ·have e0:NH (Ww l t x.args) 0=vO l t a:=Rf l t (by rw [ha];rfl)
  rw [if_neg DF,if_neg DF,if_neg DF,if_neg DF,e0] at e
  exact Y1 (ih a (by rw [ha];simp) ga) 300 [h] [h] r (Og hr) (by simpa using hr) e
inductive RchH (f:Head->Option (List Head)) (x:Head):Head->Prop
 | refl:RchH f x x
 | step {y z:Head} {b:List Head}:RchH f x y->f y=some b->z∈b->RchH f x z
theorem RchH.trans{f:Head->Option (List Head)}{x y z:Head}(h1:RchH f x y)(h2:RchH f y z):RchH f x z:=by
 induction h2 with
 | refl=>exact h1
 | step _ h3 h4 ih=>exact ih.step h3 h4
theorem RchH.closed{f:Head->Option (List Head)}{S:Head->Prop}(hS : ∀ x,S x -> ∀ b,f x=some b -> ∀ z∈b,S z){x z:Head}(hx:S x)(h:RchH f x z):S z:=by
 induction h with
 | refl=>exact hx
 | step _ h3 h4 ih=>exact hS _ ih _ h3 _ h4
theorem dP{h:Head}(hr:EF h=true){n:Int}(h0:0<=n)(h1:n<=65535):EF { h with h0:=n }=true :=
 Sy hr 0 h0 h1
end Go.AI
