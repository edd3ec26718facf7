/- A part. -/
import Derived.Test.YtmejnbhofjcibaaGreatDoorLa
import Derived.Maps.RangeRun
import Derived.Lib.AppendZerosOnto
import Derived.Lib.Overlaps
set_option linter.unusedSimpArgs false
set_option linter.unusedVariables false
set_option linter.defProp false
set_option maxHeartbeats 1000000
open Go.AI renaming CRel->ET,OptB->EU,VRel->EV,Hint->EW
open Array renaming empty_append->DZ,ext'->Bj,getElem?_append_left->Da,getElem?_eq_getElem->Ai,getElem?_eq_some_iff->An,getElem?_modify->D',getElem?_push_lt->D9,getElem?_push_size->D_,getElem?_toList->Ac,map->EC,range->CR,size_append->Ch,toArray_toList->Bl,toList_append->DA,toList_filter->EA
open Bool renaming false_eq_true->Bx,not_eq_true'->BS,or_eq_false_iff->CC
open Int renaming toNat_natCast->Ag
open List renaming any_eq_false->Bh,append_assoc->AE,append_nil->Af,count->CQ,count_nil->Ba,eq_nil_of_length_eq_zero->CI,ext_getElem?->A3,filterMap_eq_nil_iff->B3,flatMap_cons->A5,getElem?_append_left->AX,getElem?_append_right->AN,getElem?_drop->A2,getElem?_eq_getElem->AH,getElem?_eq_none->Av,getElem?_eq_some_iff->AC,getElem?_map->Aa,getElem?_of_mem->Ae,getElem?_range->CS,getElem?_set->Ax,getElem?_set_ne->A6,getElem?_set_self->A1,getElem?_take->Aj,getElem?_take_of_lt->Bv,getElem?_toArray->Bb,getElem?_zip_eq_some->BZ,length_append->AF,length_cons->AD,length_map->Ap,length_nil->AJ,length_pos_iff->Ci,length_set->Ao,map_append->Aq,map_cons->AS,map_drop->Dc,map_map->By,map_nil->Ah,map_take->EB,mem_filter->CK,mem_flatMap->Bo,mem_map->AO,mem_of_getElem?->AB,nil_append->AR,of_mem_zip->CZ,range->Ak,replicate->A0,size_toArray->BR,take_append_drop->A_
open Nat renaming add_assoc->Ay,add_mul->Az,add_zero->BA,le_of_not_lt->B',le_refl->AT,le_trans->AL,lt_irrefl->Bs,mod_lt->C9,mul_le_mul_right->BE,one_pos->D8,sub_self->AP,zero_add->AU
open Option renaming bind_eq_some_iff->CD,bind_some->BY,getD_none->BH,isSome_iff_exists->Bc,map_eq_some_iff->DB,map_some->BQ
open Or renaming inl->CE
open Go.Program renaming bytesOf->Cg,cellsOf->BJ
open Go.Result renaming andThen->Bd,andThen_ok->AZ
open Go.Sem renaming run->Db,run_bind->AK,run_pure->Ad
namespace Go.AI
section
variable{P:Program}{F:Nat->Prop}{G:Gh}{w:World}{H:cj}{R:AV->cj->Prop}
def Z5{t:Nat}{s:ByteArray}{u:Value}{rest:List AV}{urest:List Value}{lo hi mx:Option Value}{l h:Option Int}(hc:ET F G (.str s::rest) H (u::urest) w)(hu:P.underlying t=some .string)
  (hl:EU lo l)(hh:EU hi h)(hm:mx=none)(h0:0<=l.getD 0)(h1:l.getD 0<=h.getD s.size)(h2:h.getD s.size<=s.size)
  (hr:R (.str (s.extract (l.getD 0).toNat (h.getD s.size).toNat)) H):
  Fy P ((do let r<-Instr.sliceAt t u lo hi mx;pure (Next.value r):Sem Next).run P w) (Fi F G w R):=by
 have hx:=hc.l.rel 0 _ _ rfl rfl
 cases hx
 subst hm
 have hb:=HF (P:=P) (isSlice:=false) (len:=s.size) (cap:=s.size) hl hh .none (λh=>by cases h) h0 h1 (by simpa using h2) sm w
 refine .value (u:=.string _) (w':=w) ?_ (Fi.plain hc hr (.str _) (FX rfl rfl _))
 simp only[Instr.sliceAt,Instr.slice,AK,run_underlying hu,AZ]
 simp[hb]
def s8{t e ty:Nat}{own:Option Nat}{es:List AV}{u:Value}{ts:Array TypeId}(hc:ET F G [.sl own es] H [u] w)(ht:ts[0]? =some t)(hu:P.underlying t=some (.slice e))(hr:R (.int .i64 es.length) H):
  Fy P ((do let r<-Builtin.len_ ts ty #[u];pure (Next.value r):Sem Next).run P w) (Fi F G w R):=by
 have hx:=hc.l.rel 0 _ _ rfl rfl
 cases hx with
 |slnil=>exact .value (by simp[Builtin.len_,ht,run_underlying hu,goInt]) (Fi.plain hc hr (.int _ _) (FX rfl rfl _))
 |slany=>exact .value (by simp[Builtin.len_,ht,run_underlying hu,goInt]) (Fi.plain hc hr (.int _ _) (FX rfl rfl _))
 |sl=>exact .value (by simp[Builtin.len_,ht,run_underlying hu,goInt]) (Fi.plain hc hr (.int _ _) (FX rfl rfl _))
def mU{t e ty ob off len sz:Nat}{u:Value}{ts:Array TypeId}(hc:ET F G [.msl ob off len sz] H [u] w)(ht:ts[0]? =some t)(hu:P.underlying t=some (.slice e))(hr:R (.int .i64 len) H):
  Fy P ((do let r<-Builtin.len_ ts ty #[u];pure (Next.value r):Sem Next).run P w) (Fi F G w R):=by
 have hx:=hc.l.rel 0 _ _ rfl rfl
 cases hx
 exact .value (by simp[Builtin.len_,ht,run_underlying hu,goInt]) (Fi.plain hc hr (.int _ _) (FX rfl rfl _))
def mT{t ty:Nat}{s:ByteArray}{u:Value}{ts:Array TypeId}(hc:ET F G [.str s] H [u] w)(ht:ts[0]? =some t)(hu:P.underlying t=some .string)(hr:R (.int .i64 s.size) H):
  Fy P ((do let r<-Builtin.len_ ts ty #[u];pure (Next.value r):Sem Next).run P w) (Fi F G w R):=by
 have hx:=hc.l.rel 0 _ _ rfl rfl
 cases hx
 exact .value (by simp[Builtin.len_,ht,run_underlying hu,goInt]) (Fi.plain hc hr (.int _ _) (FX rfl rfl _))
def mV{t e ty n:Nat}{x:AV}{u:Value}{ts:Array TypeId}(hc:ET F G [x] H [u] w)(ht:ts[0]? =some t)(hu:P.underlying t=some (.array n e))(hr:R (.int .i64 n) H):
  Fy P ((do let r<-Builtin.len_ ts ty #[u];pure (Next.value r):Sem Next).run P w) (Fi F G w R) :=
 .value (by simp[Builtin.len_,ht,run_underlying hu,goInt]) (Fi.plain hc hr (.int _ _) (FX rfl rfl _))
def AIL{k:IntKind}{a b:Int}{u v:Value}{ts:Array TypeId}{ty:Nat}(hc:ET F G [.int k a,.int k b] H [u,v] w)(hr:R (.int k (if b<a then b else a)) H):
  Fy P ((do let r<-Builtin.min_ ts ty #[u,v];pure (Next.value r):Sem Next).run P w) (Fi F G w R):=by
 have hx:=hc.l.rel 0 _ _ rfl rfl
 have hy:=hc.l.rel 1 _ _ rfl rfl
 cases hx;cases hy
 exact .value (by simp[Builtin.min_,Builtin.min2]) (Fi.plain hc hr (.int _ _) (FX rfl rfl _))
def AIM{k:IntKind}{a b:Int}{u v:Value}{ts:Array TypeId}{ty:Nat}(hc:ET F G [.int k a,.int k b] H [u,v] w)(hr:R (.int k (if b>a then b else a)) H):
  Fy P ((do let r<-Builtin.max_ ts ty #[u,v];pure (Next.value r):Sem Next).run P w) (Fi F G w R):=by
 have hx:=hc.l.rel 0 _ _ rfl rfl
 have hy:=hc.l.rel 1 _ _ rfl rfl
 cases hx;cases hy
 exact .value (by simp[Builtin.max_,Builtin.max2]) (Fi.plain hc hr (.int _ _) (FX rfl rfl _))
def Src(G:Gh)(w:World)(n:Nat)(xs:List AV)(u:Value):Prop :=
 (u = .slice none 0 0/\xs=[]) \/ ∃(a:Addr) (c:Nat) (news:List Value),u = .slice (some a) xs.length c/\news.length=xs.length*n/\(∀(j:Nat) (v:Value),news[j]? =some v->w.cell? (a.add j)=some v) /\
   (∀v∈news,v.oneCell'=true) /\ ∀(i:Nat) (c:AV),(HP xs)[i]? =some c->c.scalar=true /\ ∃v,news[i]? =some v/\EV G w c v
def MN{own:Option Nat}{xs:List AV}{n:Nat}(hn:∀x∈xs,x.cells.length=n){u:Value}(h:EV G w (.sl own xs) u):
  (u = .slice none 0 0/\xs=[]) \/ ∃(a:Addr) (c:Nat) (news:List Value),u = .slice (some a) xs.length c/\news.length=xs.length*n/\(∀(j:Nat) (v:Value),news[j]? =some v->w.cell? (a.add j)=some v) /\
   (∀v∈news,v.oneCell'=true) /\ ∀(i:Nat) (c:AV),(HP xs)[i]? =some c->c.scalar=true /\ ∃v,news[i]? =some v/\EV G w c v:=by
 cases h with
 |slnil=>exact .inl ⟨rfl,rfl⟩
 |slany _ a=>exact .inr ⟨a,0,[],rfl,sm,λj v hv=>by simp at hv,λv hv=>by simp at hv,λi c hi=>by simp[HP]at hi⟩
 | sl _ _ sz b q cap f hsz hown hl hm hcs hus =>
  have hcl:=Gz hn
  have hget:∀i,i<xs.length*n -> ∃c,(HP xs)[i]? =some c:=λi hi=>⟨_,AH FR⟩
  refine .inr ⟨⟨b,q,none⟩,cap,(Ak (xs.length*n)).map f,rfl,sm,λj v hv=>?_,λv hv=>?_,λi c hi=>?_⟩
  ·have hj:j<xs.length*n:=by have:=(AC.1 hv).1;simpa using this
   simp[hj]at hv
   subst hv
   obtain⟨c,hc⟩:=hget j hj
   rw[G7]
   exact(hcs j c hc).2.2
  ·obtain⟨j,hj,rfl⟩:=AO.1 hv
   obtain⟨c,hc⟩:=hget j (List.mem_range.1 hj)
   exact No (hcs j c hc).1 (hus j c hc)
  ·have hi':i<xs.length*n:=by have:=(AC.1 hi).1;omega
   exact⟨(hcs i c hi).1,f i,by simp[hi'],hus i c hi⟩
def Pk{olds news rest:List Value}(i:Nat)(h:i<olds.length+news.length):
  (olds.toArray++news.toArray++rest.toArray)[i]? =(olds++news)[i]?:=by
 have e:olds.toArray++news.toArray++rest.toArray=(olds++news++rest).toArray:=sm
 rw[e,Bb,AX (by simpa using h)]
def Yq {t e ty:Nat} {sv:AV} {es xs:List AV} {u v:Value} (hc:ET F G [.sl (some (P.cellsOf e)) es,sv] H [u,v] w) (hx:Src G w (P.cellsOf e) xs v) (hu:P.underlying t=some (.slice e)) (hpos:0<P.cellsOf e)
  (hxs:∀x∈xs,x.cells.length=P.cellsOf e) (hz:GW P e=true) (hb:(es.length+xs.length)*P.bytesOf e<=140737488355328) (yp:es.length+xs.length<=9223372036854775807)
  (hr:R (.sl (some (P.cellsOf e)) (es++xs)) H) :
  Fy P ((do let r<-Builtin.append_ #[t,t] ty #[u,v];pure (Next.value r):Sem Next).run P w) (Fi F G w R):=by
 have hs:=hc.l.rel 0 _ _ rfl rfl
 unfold GW at hz
 split at hz
 case h_2=>cases hz
 rename_i i hi
 split at hz
 case h_2=>cases hz
 rename_i z hz'
 have hcz:z.cells.size=i.size:=by simpa using hz
 have hce:P.cellsOf e=i.size:=by simp[BJ,hi]
 have hbe:P.bytesOf e=i.bytes:=by simp[Cg,hi]
 rw[hbe]at hb
 have hes:∀x∈es,x.cells.length=P.cellsOf e:=by
  intro x hx'
  cases hs with
  |slnil=>simp at hx'
  |slany=>simp at hx'
  |sl _ _ sz b q cap f hsz hown _ _ _ _=>rw[hsz x hx',<- (hown _ rfl).1]
 have moved:∀(olds news:List Value) (old:Nat),olds.length=es.length*P.cellsOf e->news.length=xs.length*P.cellsOf e ->
   (∀(i:Nat) (c:AV),(HP es)[i]? =some c->c.scalar=true /\ ∃v,olds[i]? =some v/\EV G w c v) ->
   (∀(i:Nat) (c:AV),(HP xs)[i]? =some c->c.scalar=true /\ ∃v,news[i]? =some v/\EV G w c v) ->
   ∃G',ET F G' [.sl (some (P.cellsOf e)) (es++xs)] H [.slice (some ⟨w.heap.size,0,none⟩) (es.length+xs.length) (grownCap w (es.length+xs.length) old e)]
    (w.drew.alloc (.cells (olds.toArray++news.toArray++Builtin.zeroCells z.cells (grownCap w (es.length+xs.length) old e - (es.length+xs.length))) e)) /\
    Ext F G w G' (w.drew.alloc (.cells (olds.toArray++news.toArray++Builtin.zeroCells z.cells (grownCap w (es.length+xs.length) old e - (es.length+xs.length))) e)):=by
  intro olds news old ho hn hoc hnc
  have hge:=grownCap_ge w (es.length+xs.length) old e
  have hcm:grownCap w (es.length+xs.length) old e<=maxLen:=grownCap_le_maxLen w _ old e (by unfold maxLen;omega)
  have hall:∀x∈es++xs,x.cells.length=P.cellsOf e:=λx hx=>by
   rcases List.mem_append.1 hx with h|h
   ·exact hes x h
   ·exact hxs x h
  have hd:=hc.draw
  have hce1:=Gz hes
  have hce2:=Gz hxs
  obtain⟨G',h1,h2⟩:=hd.newList (es++xs) (P.cellsOf e) (grownCap w (es.length+xs.length) old e)
   (olds.toArray++news.toArray++Builtin.zeroCells z.cells (grownCap w (es.length+xs.length) old e - (es.length+xs.length))) e hpos hall (by simpa using hge) hcm (by
    simp only[Ch,BR,size_zeroCells,hcz,ho,hn,<- hce,<- Az]
    exact BE _ FR) (λi c hi'=>by
    rw[Kq]at hi'
    have hlt:=(AC.1 hi').1
    simp only[AF]at hlt
    have e0:=Pk (olds:=olds) (news:=news) (rest:=(Builtin.zeroCells z.cells (grownCap w (es.length+xs.length) old e - (es.length+xs.length))).toList) i FR
    rw[Bl]at e0
    rw[e0]
    by_cases hlo:i<(HP es).length
    ·rw[AX hlo]at hi'
     rw[AX FR]
     obtain⟨s1,v,s2,s3⟩:=hoc i c hi'
     exact⟨s1,v,s2,s3.keep (H9 (F:=F)).keeps⟩
    ·rw[AN FR]at hi'
     rw[AN FR,ho,<- hce1]
     obtain⟨s1,v,s2,s3⟩:=hnc _ c hi'
     exact⟨s1,v,s2,s3.keep (H9 (F:=F)).keeps⟩)
  simp only[AF]at h1
  exact⟨G',h1,H9.trans h2⟩
 have hlenle:es.length+xs.length<=9223372036854775807:=yp
 cases hs with
 | slnil own =>
  rcases hx with⟨rfl,rfl⟩|⟨a,c,news,rfl,hnl,hnews,hone,hcell⟩
  ·refine .value (u:=.slice none 0 0) (w':=w) ?_ (Fi.plain (v:=.sl (some (P.cellsOf e)) []) hc (by simpa using hr) (.slnil _) (by simp[Gs,LG,AV.flat,AV.cells,ID,Value.cells,tok]))
   simp[Builtin.append_,run_underlying hu,sizeOf,typeInfo,hi,Builtin.lenOf,Builtin.firstCells]
  ·by_cases h0:xs=[]
   ·subst h0
    have:news=[]:=CI (by simpa using hnl)
    subst this
    refine .value (u:=.slice none 0 0) (w':=w) ?_ (Fi.plain (v:=.sl (some (P.cellsOf e)) []) hc (by simpa using hr) (.slnil _) (by simp[Gs,LG,AV.flat,AV.cells,ID,Value.cells,tok]))
    simp[Builtin.append_,run_underlying hu,sizeOf,typeInfo,hi,Builtin.lenOf,Builtin.firstCells,loadCells,loadCellsFrom]
   ·have hpos2:0<xs.length:=Ci.2 h0
    have hrun:=run_append_nil (P:=P) w t ty e i z hu hi hz' a xs.length c news (by rw[hnl,hce]) hnews hpos2 (by simp at yp;omega) (by simp at hb;omega)
    obtain⟨G',g1,g2⟩:=moved [] news 0 sm hnl (λi c hi'=>by simp[HP]at hi') hcell
    simp only[AJ,AU,DZ,AR]at g1 g2 hr
    have e0:(#[]:Array Value)++news.toArray=news.toArray:=sm
    exact .value (by rw[AK,hrun];rfl) ⟨_,H,G',hr,by simpa using g1,by simpa using g2⟩
 | slany own ad =>
  rcases hx with⟨rfl,rfl⟩|⟨a,c,news,rfl,hnl,hnews,hone,hcell⟩
  ·refine .value (u:=.slice (some ad) 0 0) (w':=w) ?_ (Fi.plain (v:=.sl (some (P.cellsOf e)) []) hc (by simpa using hr) (.slany _ _) (by simp[Gs,LG,AV.flat,AV.cells,ID,Value.cells,tok]))
   simp[Builtin.append_,run_underlying hu,sizeOf,typeInfo,hi,Builtin.lenOf,Builtin.firstCells,storeCells]
  ·by_cases h0:xs=[]
   ·subst h0
    have:news=[]:=CI (by simpa using hnl)
    subst this
    refine .value (u:=.slice (some ad) 0 0) (w':=w) ?_ (Fi.plain (v:=.sl (some (P.cellsOf e)) []) hc (by simpa using hr) (.slany _ _) (by simp[Gs,LG,AV.flat,AV.cells,ID,Value.cells,tok]))
    simp[Builtin.append_,run_underlying hu,sizeOf,typeInfo,hi,Builtin.lenOf,Builtin.firstCells,loadCells,loadCellsFrom,storeCells]
   ·have hpos2:0<xs.length:=Ci.2 h0
    have hrun:=run_append_grow (P:=P) w t ty e i z hu hi hz' ad 0 0 [] sm (λj v hv=>by simp at hv) a xs.length c news (by rw[hnl,hce]) hnews FR FR  (growslice_fits (by simpa using hpos2) (by simpa using hb))
    obtain⟨G',g1,g2⟩:=moved [] news 0 sm hnl (λi c hi'=>by simp[HP]at hi') hcell
    simp only[AJ,AU,DZ,AR]at g1 g2 hr
    exact .value (by rw[AK,hrun];rfl) ⟨_,H,G',hr,by simpa using g1,by simpa using g2⟩
 | sl own es' sz b q cap f hsz hown hle hmx hcs hus =>
  have hs':EV G w (.sl (some (P.cellsOf e)) es) (.slice (some ⟨b,q,none⟩) es.length cap):=.sl _ es sz b q cap f hsz hown hle hmx hcs hus
  rcases hx with⟨rfl,rfl⟩|⟨a,c,news,rfl,hnl,hnews,hone,hcell⟩
  ·refine .value (u:=.slice (some ⟨b,q,none⟩) es.length cap) (w':=w) ?_ (Fi.same (hc.get (i:=0) rfl rfl) (by simpa using hr))
   simp[Builtin.append_,run_underlying hu,sizeOf,typeInfo,hi,Builtin.lenOf,Builtin.firstCells,hle,storeCells]
  ·by_cases hroom:es.length+xs.length<=cap
   ·by_cases h0:xs=[]
    ·subst h0
     have:news=[]:=CI (by simpa using hnl)
     subst this
     refine .value (u:=.slice (some ⟨b,q,none⟩) es.length cap) (w':=w) ?_ (Fi.same (hc.get (i:=0) rfl rfl) (by simpa using hr))
     simp[Builtin.append_,run_underlying hu,sizeOf,typeInfo,hi,Builtin.lenOf,Builtin.firstCells,loadCells,loadCellsFrom,hle,storeCells]
    ·have hpos2:0<xs.length:=Ci.2 h0
     have htok:=hc.l.tok 0 _ _ rfl rfl (.sl (some (P.cellsOf e)) es,.slice (some ⟨b,q,none⟩) es.length cap) (by rw[Qh _ _ _ _ _ _ rfl];simp)
     obtain⟨_,_,C,E,hrow,_⟩:=htok FR
     replace hrow:w.heap[b]? =some (.cells C E (0,0)):=hrow
     obtain⟨hfit,G',g1,g2⟩:=hc.appendIn (i0:=0) rfl rfl hroom FR hxs news hnl hcell hrow
     have hf:=run_firstCells_some (P:=P) w i.size xs.length a xs.length c news (by rw[hnl,hce]) hnews
     have hst:=run_storeCells_at P b (q+es.length*P.cellsOf e) E news 0 C w hrow FR hone
     simp only[BA]at hst
     refine .value ?_ ⟨_,H,G',hr,g1,g2⟩
     rw[hce]at hst
     rw[hce]
     simp[Builtin.append_,run_underlying hu,sizeOf,typeInfo,hi,Builtin.lenOf,hroom,hf,G7,hst]
   ·have hrun:=run_append_grow (P:=P) w t ty e i z hu hi hz' ⟨b,q,none⟩ es.length cap ((Ak (es.length*P.cellsOf e)).map f) (by simp[hce]) (λj v hv=>by
      have hj:j<es.length*P.cellsOf e:=by have:=(AC.1 hv).1;simpa using this
      simp[hj]at hv
      subst hv
      have hcl:=Gz hes
      rw[G7]
      exact(hcs j _ (AH FR)).2.2) a xs.length c news (by rw[hnl,hce]) hnews FR FR  (growslice_fits FR hb)
    obtain⟨G',g1,g2⟩:=moved ((Ak (es.length*P.cellsOf e)).map f) news cap sm hnl (λi c hi'=>by
      have hi2:i<es.length*P.cellsOf e:=by have:=(AC.1 hi').1;rw[Gz hes]at this;exact this
      exact⟨(hcs i c hi').1,f i,by simp[hi2],hus i c hi'⟩) hcell
    exact .value (by rw[AK,hrun];rfl) ⟨_,H,G',hr,g1,g2⟩
def AH5{e:TypeId}{rd:Bool}{a b:AV}{u v:Value}{xs:List AV}(hc:ET F G [a,b] H [u,v] w)(hs:S' P e rd H b=some xs)(hn : ∀ x∈xs,x.cells.length=P.cellsOf e):Src G w (P.cellsOf e) xs v:=by
 have hx:=hc.l.rel 1 _ _ rfl rfl
 unfold S' at hs
 split at hs
 ·cases hs
  exact MN hn hx
 ·rename_i ob off len sz
  split at hs
  ·rename_i cs ho
   split at hs
   ·rename_i hcond
    cases hs
    obtain⟨hle,rfl,hag⟩:=hcond
    cases hx with
    | msl _ _ _ _ b cap hb hl hm hrow =>
     obtain⟨C,E,hrow,hlC,hC⟩:=((hc.h.obj ob cs b ho hb).of_cells hrow.choose_spec.choose_spec.1).2
     have hsc:∀c∈(cs.drop off).map borrow1,c.scalar=true:=by
      intro c hcm
      obtain⟨d,hd,rfl⟩:=AO.1 hcm
      obtain⟨i,hi⟩:=Ae hd
      rw[A2]at hi
      have hlt:=(AC.1 hi).1
      rw[GT]
      exact(hC _ d _ hi (Ai FR)).1
     obtain⟨hcat,_⟩:=PC (R6 P e) (P.cellsOf e) hag len ((cs.drop off).map borrow1) Hy hsc
     have hcell:∀j,j<len*P.cellsOf e -> ∃x,C[off+j]? =some x/\w.cell? ⟨b,off+j,none⟩=some x /\ ∀c,cs[off+j]? =some c->c.scalar=true/\EV G w c x:=by
      intro j hj
      have hlt:off+j<C.size:=FR
      refine⟨C[off+j],Ai hlt, ?_,λc hcj=>?_⟩
      ·rw[cell_of_row _ _ _ C E _ hrow];exact Ai hlt
      ·have:=hC _ c _ hcj (Ai hlt)
       exact⟨this.1,this.2.1⟩
     refine .inr ⟨⟨b,off,none⟩,cap,((C.toList.drop off).take (len*P.cellsOf e)),by rw[Lf],by rw[Lf];simp;omega,λj x hx=>?_,λx hx=>?_,λi c hi=>?_⟩
     ·have hj:j<len*P.cellsOf e:=by have:=(AC.1 hx).1;simp at this;omega
      rw[Bv hj,A2,Ac]at hx
      obtain⟨y,h1,h2,_⟩:=hcell j hj
      rw[h1]at hx;cases hx
      rw[G7];exact h2
     ·obtain⟨j,hj'⟩:=Ae hx
      have hj:j<len*P.cellsOf e:=by have:=(AC.1 hj').1;simp at this;omega
      rw[Bv hj,A2,Ac]at hj'
      obtain⟨y,h1,_,h3⟩:=hcell j hj
      rw[h1]at hj';cases hj'
      obtain⟨s1,s2⟩:=h3 _ (AH FR)
      exact No s1 s2
     ·rw[hcat]at hi
      have hj:i<len*P.cellsOf e:=by have:=(AC.1 hi).1;simp at this;omega
      rw[Bv hj,Aa,A2]at hi
      obtain⟨y,h1,_,h3⟩:=hcell i hj
      cases hd:cs[off+i]? with
      |none=>rw[hd]at hi;cases hi
      |some d =>
       rw[hd]at hi;cases hi
       obtain⟨s1,s2⟩:=h3 d hd
       exact⟨(GT d).trans s1,y,by rw[Bv hj,A2,Ac];exact h1,s2.borrow1⟩
   ·cases hs
  ·cases hs
 ·cases hs
end
end Go.AI
namespace Go.AI
section
variable{P:Program}{F:Nat->Prop}{G:Gh}{w:World}{H:cj}{R:AV->cj->Prop}
def KO{α:Type}(l:List α): ∀ (n i:Nat),(A0 n l).flatten[i]? =if i<n*l.length then l[i % l.length]? else none
 | 0,i=>sm
 | n+1,i=>by
  rw[List.replicate_succ,List.flatten_cons,List.getElem?_append]
  by_cases h:i<l.length
  ·rw[iP h,iP (by rw[Az];omega),Nat.mod_eq_of_lt h]
  ·rw[iN h,KO l n (i - l.length)]
   have e:(i - l.length) % l.length=i % l.length:=by
    rw[Nat.mod_eq_sub_mod (B' h)]
   rw[e]
   by_cases h2:i<(n+1)*l.length
   ·rw[iP h2,iP (by rw[Az]at h2;omega)]
   ·rw[iN h2,iN (by rw[Az]at h2;omega)]
def Z9{t e:Nat}{k k':IntKind}{n c:Int}{u v:Value}{z:AV}(h:ET F G [.int k n,.int k' c] H [u,v] w)(hu:P.underlying t=some (.slice e))(hnc:n=c)(h0:0<=n)(hb:n*P.bytesOf e<=140737488355328)
  (hmax:n<=9223372036854775807)(hi:(P.info? e).isSome=true)(hz:Fk P e=some z)(hzl:z.cells.length=P.cellsOf e)(hpos:0<P.cellsOf e)
  (hr:R (.msl H.length 0 n.toNat (P.cellsOf e)) (H++[some (A0 n.toNat z.cells).flatten])):
  Fy P ((do let r<-Instr.makeSlice t u v;pure (Next.value r):Sem Next).run P w) (Fi F G w R):=by
 have h1:=h.l.rel 0 _ _ rfl rfl
 have h2:=h.l.rel 1 _ _ rfl rfl
 subst hnc
 cases h1;cases h2
 obtain⟨i,hi⟩:=Bc.1 hi
 obtain⟨zv,hrun,hval,hc,ht⟩:=M1 hz
 have hc':=hc F G w
 have hzs:zv.cells.size=P.cellsOf e:=by have:=hc'.len;simp at this;omega
 obtain⟨m,rfl⟩:∃m:Nat,n=m:=⟨n.toNat,FR⟩
 have hw:IntKind.i64.wrap (m:Int)=m:=by
  rw[IntKind.wrap_i64];omega
 have hai:∀(k:IntKind) (n:Int),(asInt (.int k n)).run P w = .ok n w:=λk n=>by simp[asInt,asIntOf]
 have hbytes:P.bytesOf e=i.bytes:=by simp[Cg,hi]
 have hti:(typeInfo e).run P w = .ok i w:=by simp[typeInfo,hi]
 rw[hbytes]at hb
 have hb':(i.bytes:Int)*(m:Int)<=140737488355328:=by rw[Int.mul_comm];exact hb
 have hd1:decide ((i.bytes:Int)*(m:Int)>2^48)=false:=by
  rw[decide_eq_false_iff_not];omega
 have hd2:decide ((m:Int)<0)=false:=by
  rw[decide_eq_false_iff_not];omega
 have hd3:decide ((m:Int)>(m:Int))=false:=by
  rw[decide_eq_false_iff_not];omega
 have hs:(sizeOf e).run P w = .ok (P.cellsOf e) w:=Ge hpos w
 have hmake:∃C:Array Value,C=(CR (m*P.cellsOf e)).map (zv.cells[· % zv.cells.size]!)/\(Instr.makeSlice t (.int k m) (.int k' m)).run P w = .ok (.slice (some ⟨w.heap.size,0,none⟩) m m) (w.alloc (.cells C e)):=by
  refine⟨_,rfl, ?_⟩
  simp only[Instr.makeSlice,AK,run_underlying hu,AZ,hai,hti,hw,hd1,hd2,hd3,Bool.or_false,Bool.false_or,Bx,if_false,run_askRoom,hs,Ag]
  by_cases hm0:m*P.cellsOf e=0
  ·have hr0:CR 0=#[]:=rfl
   simp[hm0,newRow,hr0]
  ·simp[hm0,hrun,newRow]
 obtain⟨C,hC,hrunM⟩:=hmake
 have hCs:C.size=m*P.cellsOf e:=by rw[hC];simp
 have hpair:∀(i:Nat) (c:AV) (v:Value),(A0 m z.cells).flatten[i]? =some c->C[i]? =some v->z.cells[i % z.cells.length]? =some c/\zv.cells.toList[i % z.cells.length]? =some v:=λi c v h1 h2=>by
  rw[KO]at h1
  split at h1
  ·rename_i hlt
   refine⟨h1, ?_⟩
   rw[hC]at h2
   rw[hzl]at hlt
   have:i % zv.cells.size<zv.cells.size:=C9 _ FR
   simp[hlt]at h2
   rw[Ac,hzl,<- hzs,Ai this,<- h2]
   simp[this]
  ·cases h1
 refine .value (u:=.slice (some ⟨w.heap.size,0,none⟩) m m) (w':=w.alloc (.cells C e)) (by rw[AK,hrunM];rfl) ⟨_,_,_,hr, ?_,IU h.h.fore _⟩
 simp only[Ag]
 have hfl:(A0 m z.cells).flatten.length=m*P.cellsOf e:=by simp[hzl]
 refine h.newObj (A0 m z.cells).flatten C e (by rw[hfl,hCs];exact AT _) (λi c x h1 h2=>?_) (λb=>?_) (.msl _ _ _ _ w.heap.size m ?_ (AT _) (by unfold maxLen;omega) ⟨C,e,heap_alloc_new w (.cells C e),FR⟩) (FX rfl rfl _)
 ·obtain⟨g1,g2⟩:=hpair i c x h1 h2
  exact hc'.at_ _ c x g1 g2
 ·have hnil:((A0 m z.cells).flatten.zip C.toList).filterMap tok=[]:=by
   rw[B3]
   intro p hp
   obtain⟨i,hi⟩:=Ae hp
   rw[BZ]at hi
   obtain⟨g1,g2⟩:=hpair i p.1 p.2 hi.1 (by rw[<- Ac];exact hi.2)
   have hmem:(p.1,p.2)∈z.cells.zip zv.cells.toList:=AB (i:=i % z.cells.length) (by rw[BZ];exact⟨g1,g2⟩)
   exact B3.1 ht _ hmem
  rw[hnil];simp
 ·show(G.obs++[w.heap.size])[H.length]? =_
  rw[<- h.h.len,AN (AT _)]
  simp
def Ra {t e len:Nat} {ps:List (Nat×Operand)} {ρ:Operand->Value} {vs:List AV} (h:ET F G vs H (ps.map λp=>ρ p.2) w) (hu:P.underlying t=some (.slice e)) (hpos:0<P.cellsOf e) (hsmall:len*P.cellsOf e<=16777216)
  (hidx:ps.map (·.1)=Ak len) (hvs:∀v∈vs,v.isVal=true/\v.cells.length=P.cellsOf e) (hz:GW P e=true) (hr:R (.msl H.length 0 len (P.cellsOf e)) (H++[some (HP (vs.map AV.borrow))])) :
  Fy P ((do let r<-Instr.buildSlice t len (ps.map λp=>(p.1,ρ p.2)).toArray;pure (Next.value r):Sem Next).run P w) (Fi F G w R):=by
 have hpl:ps.length=len:=by have:=congrArg List.length hidx;simpa using this
 have hvl:vs.length=len:=by have:=h.l.len;simp at this;omega
 have hus:∀u∈ps.map (λp=>ρ p.2),u.cells.size=P.cellsOf e:=by
  intro u hu'
  obtain⟨i,hi⟩:=Ae hu'
  have hlt:=(AC.1 hi).1
  simp at hlt
  have hv:vs[i]? =some (vs[i]' FR):=AH _
  obtain⟨g1,g2⟩:=hvs _ (AB hv)
  have:=(Jm g1 (h.l.rel i _ u hv hi)).2.2
  omega
 unfold GW at hz
 split at hz
 ·rename_i i hi
  split at hz
  ·rename_i z hz'
   have key:∀zc:Array Value,Instr.fill (λi=>some (i*P.cellsOf e,P.cellsOf e)) ((CR (len*P.cellsOf e)).map (zc[· % zc.size]!)) (ps.map λp=>(p.1,ρ p.2)) =
     some ((ps.map λp=>ρ p.2).flatMap λu=>u.cells.toList).toArray:=λzc=>by
    have hfill:=V' (P.cellsOf e) (ps.map λp=>ρ p.2) 0 ((CR (len*P.cellsOf e)).map (zc[· % zc.size]!)) hus (by simp[hpl])
    rw[show(List.range' 0 (ps.map λp=>ρ p.2).length)=ps.map (·.1) by rw[hidx,List.range_eq_range'];simp[hpl],PX]at hfill
    simpa using hfill
   have hcc:=S7 vs _ h.l λv hv=>(hvs v hv).1
   have hrun:(Instr.buildSlice t len (ps.map λp=>(p.1,ρ p.2)).toArray).run P w = .ok (.slice (some ⟨w.heap.size,0,none⟩) len len) (w.alloc (.cells ((ps.map λp=>ρ p.2).flatMap λu=>u.cells.toList).toArray e)):=by
    have hs:(sizeOf e).run P w = .ok (P.cellsOf e) w:=Ge hpos w
    simp only[Instr.buildSlice,AK,run_underlying hu,AZ,hs,Sem.run_ite]
    rw[iN FR]
    simp only[Ad,AZ]
    by_cases h0:len*P.cellsOf e=0
    ·simp only[iP h0,key]
     simp[newRow]
    ·simp only[iN h0,zeroValue,typeInfo,AK,run_program,AZ,hi,hz',Ad,key]
     simp[newRow]
   have hul:((ps.map λp=>ρ p.2).flatMap λu=>u.cells.toList).length=len*P.cellsOf e:=by
    have:=hcc.len
    rw[Gz (n:=P.cellsOf e) λx hx=>by
     obtain⟨v,hv,rfl⟩:=AO.1 hx
     rw[Kp];exact(hvs v hv).2]at this
    simp only[Ap,hvl]at this
    omega
   refine .value (by rw[AK,hrun];rfl) ⟨_,_,_,hr, ?_,IU h.h.fore _⟩
   refine h.newObj (HP (vs.map AV.borrow)) _ e (by have:=hcc.len;simp;simp at this;omega) (λi c x h1 h2=>hcc.at_ i c x h1 (by simpa using h2)) (λb=>?_) (.msl _ _ _ _ w.heap.size len ?_ (AT _) (by
      have:len<=len*P.cellsOf e:=Nat.le_mul_of_pos_right _ hpos
      unfold maxLen;omega) ⟨_,e,heap_alloc_new w _,by rw[BR,hul];omega⟩) (FX rfl rfl _)
   ·have hnil:((HP (vs.map AV.borrow)).zip ((ps.map λp=>ρ p.2).flatMap λu=>u.cells.toList)).filterMap tok=[]:=by
     rw[B3]
     intro p hp
     have hm:=(CZ hp).1
     simp only[HP,Bo,AO]at hm
     obtain⟨x,⟨v,hv,rfl⟩,hm⟩:=hm
     have hval:=(hvs v hv).1
     have e1:v.borrow=borrow0 v:=by cases v<;>first|rfl|cases hval
     rw[e1,QO]at hm
     obtain⟨c,_,hc⟩:=AO.1 hm
     obtain⟨p1,p2⟩:=p
     simp only at hc
     rw[<- hc]
     exact Gd c p2
    rw[hnil];simp
   ·show(G.obs++[w.heap.size])[H.length]? =_
    rw[<- h.h.len,AN (AT _)]
    simp
  ·cases hz
 ·cases hz
def Yj(f:Value->ByteArray->Sem (ForInStep ByteArray))(hf:∀n s,f (.int .u8 n) s=pure (.yield (s.push (UInt8.ofNat n.toNat)))): ∀(l:List Value) (s:ByteArray),(∀v∈l,∃n,v = .int .u8 n) ->
  (forIn l s f:Sem ByteArray).run P w = .ok ⟨s.data++(l.map fun | .int _ n=>UInt8.ofNat n.toNat|_=>0).toArray⟩ w
 |[],s,_=>sm
 |v::l,s,h=>by
  obtain⟨n,rfl⟩:=h v sm
  rw[List.forIn_cons,AK,hf]
  simp only[Ad,AZ]
  rw[Yj f hf l _ λx hx=>h x (by simp[hx])]
  congr 2
  simp[ByteArray.push]
def Sn {src dst el:TypeId} {own:Option Nat} {es:List AV} {x:Value} (h:ET F G [.sl own es] H [x] w) (hs:P.underlying src=some (.slice el)) (hd:P.underlying dst=some .string) (he:P.underlying el=some (.int .u8))
  (hb:∀x∈es,Oz x=true) (hr:R (.str (Pu es)) H) :
  Fy P ((do let v<-convert src dst x;pure (Next.value v):Sem Next).run P w) (Fi F G w R):=by
 have hx:=h.l.rel 0 _ _ rfl rfl
 have hlen:∀x∈es,x.cells.length=1:=λx hm=>by
  have:=hb x hm
  unfold Oz at this
  split at this
  ·rfl
  ·cases this
 have hout:∀r:ByteArray,(convert src dst x).run P w = .ok (.string r) w->r=Pu es->Fy P ((do let v<-convert src dst x;pure (Next.value v):Sem Next).run P w) (Fi F G w R):=λr hrun e=>by
  subst e
  exact .value (by rw[AK,hrun];rfl) (Fi.plain h hr (.str _) (FX rfl rfl _))
 have hcat:HP es=es:=by
  have:∀(es:List AV),(∀x∈es,Oz x=true)->HP es=es:=by
   intro es
   induction es with
   |nil=>intro _;rfl
   | cons a as ih =>
    intro hb
    have h1:=hb a sm
    have h2:=ih λx hx=>hb x (by simp[hx])
    unfold Oz at h1
    split at h1
    ·simp only[HP,A5]at h2 ⊢
     rw[h2];rfl
    ·cases h1
  exact this es hb
 rcases MN hlen hx with⟨rfl,rfl⟩|⟨a,c,news,rfl,hl,hcell,_,hrel⟩
 ·exact hout .empty (by simp[convert,run_underlying hs,run_underlying hd,run_underlying he,Conv.bytesToString]) rfl
 ·rw[hcat]at hrel
  rw[Nat.mul_one]at hl
  have hnews:∀(i:Nat) (v:Value),news[i]? =some v -> ∃n,es[i]? =some (.int .u8 n)/\v = .int .u8 n:=λi v hv=>by
   have hi:i<es.length:=by have:=(AC.1 hv).1;omega
   have h1:=AH hi
   obtain⟨_,v',hv',hr'⟩:=hrel i _ h1
   have h2:=hb _ (AB h1)
   generalize es[i]=e0 at h1 hr' h2
   unfold Oz at h2
   split at h2
   ·rw[hv]at hv'
    cases hv'
    cases hr'
    exact⟨_,h1,rfl⟩
   ·cases h2
  refine hout ⟨(news.map fun | .int _ n=>UInt8.ofNat n.toNat|_=>0).toArray⟩ ?_ ?_
  ·have hld:=run_loadCells_list (P:=P) w a news hcell
   rw[hl]at hld
   simp only[convert,AK,run_underlying hs,run_underlying hd,run_underlying he,AZ,Conv.bytesToString,hld]
   rw[<- Array.forIn_toList]
   simp only[]
   rw[Yj (P:=P) (w:=w) _ (λ_ _=>rfl) news .empty λv hv=>by
    obtain⟨i,hi⟩:=Ae hv
    obtain⟨n,_,hn⟩:=hnews i v hi
    exact⟨n,hn⟩]
   simp
  ·unfold Pu
   congr 2
   apply A3
   intro i
   rw[Aa,Aa]
   cases hv:news[i]? with
   |none =>
    rw[Av (by have:=List.getElem?_eq_none_iff.1 hv;omega)]
    rfl
   |some v =>
    obtain⟨n,hn,rfl⟩:=hnews i v hv
    rw[hn];rfl
end
end Go.AI
namespace Go.AI
section
variable{P:Program}{F:Nat->Prop}{G:Gh}{w:World}{H:cj}{vals:List AV}{us:List Value}{R:AV->cj->Prop}
def VRel.msl_cells{ob off len sz b:Nat}{u:Value}(hv:EV G w (.msl ob off len sz) u)(hb:G.obs[ob]? =some b): ∃(C:Array Value) (E:TypeId),w.heap[b]? =some (.cells C E (0,0)):=by
 generalize hx:AV.msl ob off len sz=x at hv
 cases hv<;>cases hx
 rename_i b0 cap hcap hob hlcap hcc
 rw[hb]at hob
 cases hob
 obtain⟨C,E,h1,_⟩:=hcc
 exact⟨C,E,h1⟩
def CRel.freeze(h:ET F G vals H us w){ob b:Nat}{cs:List AV}(ho:H[ob]? =some (some cs))(hb:G.obs[ob]? =some b)(hbc : ∃ (C:Array Value) (E:TypeId),w.heap[b]? =some (.cells C E (0,0))):
  ET F (G.setKind b .imm) vals (H.set ob none) us w/\Ext F G w (G.setKind b .imm) w:=by
 have hobj:=h.h.obj ob cs b ho hb
 have hkd:G.kind b = .obj:=(hobj.of_cells hbc.choose_spec.choose_spec).1
 have hk:Keeps G w (G.setKind b .imm) w:=⟨λ_ _ h=>h,λ_ C _ h=>⟨C,h,rfl⟩,λb' hb' hs=>⟨hb',G.kind_set_ne .imm (λe=>by rw[e,hkd]at hs;cases hs)⟩,λb' o v hs hc=>⟨by
  by_cases e:b'=b
  ·subst e
   unfold Gh.safe at hs
   rw[hkd]at hs
   exact hs.elim
  ·exact(G.safe_set_ne .imm e).2 hs,hc⟩⟩
 have hE:∀F':Nat->Prop,(∀b',F' b'->b'≠b)->Ext F' G w (G.setKind b .imm) w:=λF' hF=>⟨AT _,hk,λb' hb'=>G.kind_set_ne .imm (hF b' hb'),λ_ _=>rfl,⟨rfl,rfl,rfl⟩⟩
 have hbuf:∀{p:AV×Value} {b':Nat},GD F G w p->tok p=some b'->b'≠b:=λ{p b'} ht hb' e=>by
  obtain⟨_,⟨q,hq⟩,_⟩:=ht.of_tok hb'
  rw[e,hkd]at hq
  cases hq
 refine⟨⟨h.l.ext (F':=λb'=>b'≠b) (hE _ λ_ h=>h) (λb' hp=>?_),⟨by rw[Ao];exact h.h.len,λo cs2 b2 h1 h2=>?_,λo o' cs2 cs3 b2 h1 h2 h3 h4=>?_,h.h.fore,h.h.glob.keep hk⟩,λb'=>?_⟩,hE F λb' hF e=>hobj.own (e▸hF)⟩
 ·obtain⟨_,⟨q,hq⟩,_⟩:=h.l.tok_of_pos hp
  intro e
  rw[e,hkd]at hq
  cases hq
 ·have hne:o≠ob:=by
   rintro rfl
   rw[A1 (by exact(AC.1 ho).1)]at h1
   cases h1
  rw[A6 (Ne.symm hne)]at h1
  have hbne:b2≠b:=by
   rintro rfl
   exact hne (h.h.inj _ _ _ _ _ h1 ho h2 hb)
  exact(h.h.obj o cs2 b2 h1 h2).keep hk (h.h.obj o cs2 b2 h1 h2).own (G.kind_set_ne .imm hbne) rfl λC E _ i c v hc hv s3=>s3.keep λb' ht=>⟨(s3.of_tok ht).1,G.kind_set_ne .imm (hbuf s3 ht),rfl⟩
 ·have e1:o≠ob:=by
   rintro rfl
   rw[A1 (by exact(AC.1 ho).1)]at h1
   cases h1
  have e2:o'≠ob:=by
   rintro rfl
   rw[A1 (by exact(AC.1 ho).1)]at h2
   cases h2
  rw[A6 (Ne.symm e1)]at h1
  rw[A6 (Ne.symm e2)]at h2
  exact h.h.inj _ _ _ _ _ h1 h2 h3 h4
 ·have hle:IM (G.setKind b .imm) (H.set ob none) w b'<=IM G H w b':=by
   have hd:=(AC.1 ho).1
   have hs:=JO (n:=H.length) (f:=λo=>(Gq (G.setKind b .imm) (H.set ob none) w o).count b') (g:=λo=>(Gq G H w o).count b') hd λo ho' hne=>by
    unfold Gq
    rw[A6 (Ne.symm hne)]
    rfl
   have hz:(Gq (G.setKind b .imm) (H.set ob none) w ob)=[]:=by
    unfold Gq
    rw[A1 hd]
   simp only[hz,Ba,BA]at hs
   unfold IM
   rw[Ao]
   omega
  have:=h.cnt b'
  omega
def CRel.moveObj(h:ET F G vals H us w){ob b:Nat}{cs:List AV}(ho:H[ob]? =some (some cs))(hb:G.obs[ob]? =some b):
  ET F { G with obs:=G.obs++[b] } vals (H.set ob none++[some cs]) us w/\Ext F G w { G with obs:=G.obs++[b] } w:=by
 have hlen:=h.h.len
 have hob:=(AC.1 ho).1
 have hk:Keeps G w { G with obs:=G.obs++[b] } w:=⟨λo x hx=>K_ hx,λ_ C _ hC=>⟨C,hC,rfl⟩,λ_ hb' _=>⟨hb',rfl⟩,λb' o v hs hc=>⟨hs,hc⟩⟩
 have he:Ext F G w { G with obs:=G.obs++[b] } w:=⟨AT _,hk,λ_ _=>rfl,λ_ _=>rfl,⟨rfl,rfl,rfl⟩⟩
 have hat:∀(o b':Nat) (cs':List AV),(H.set ob none++[some cs])[o]? =some (some cs')->(G.obs++[b])[o]? =some b' ->
   (o≠ob/\o<H.length/\H[o]? =some (some cs')/\G.obs[o]? =some b')\/(o=H.length/\cs'=cs/\b'=b):=by
  intro o b' cs' h1 h2
  have hlt:=(AC.1 h1).1
  simp only[AF,Ao,AD,AJ]at hlt
  by_cases hol:o<H.length
  ·rw[AX (by simpa using hol)]at h1
   rw[AX FR]at h2
   have hne:o≠ob:=by
    rintro rfl
    rw[A1 hob]at h1;cases h1
   rw[A6 (Ne.symm hne)]at h1
   exact .inl ⟨hne,hol,h1,h2⟩
  ·have:o=H.length:=FR
   subst this
   rw[AN sm]at h1
   rw[AN FR,hlen]at h2
   simp only[Ao,AP,List.getElem?_cons_zero,Option.some.injEq]at h1 h2
   exact .inr ⟨rfl,h1.symm,h2.symm⟩
 refine⟨⟨⟨h.l.len,λi a u h1 h2=>(h.l.rel i a u h1 h2).keep hk,λi a u h1 h2 p hp=>h.l.tok i a u h1 h2 p hp⟩,
  ⟨by simp[hlen],λo cs' b' h1 h2=>?_,λo o' cs1 cs2 b' h1 h2 h3 h4=>?_,h.h.fore,h.h.glob.same rfl⟩,λx=>?_⟩,he⟩
 ·have lift2:∀(cs:List AV) (b2:Nat),ORel F G w cs b2->ORel F { G with obs:=G.obs++[b] } w cs b2:=λcs b2 hor=>by
   exact hor.keep hk hor.own rfl rfl λ_ _ _ _ _ _ _ _ s3=>s3
  rcases hat o b' cs' h1 h2 with⟨_,_,g1,g2⟩|⟨rfl,rfl,rfl⟩
  ·exact lift2 _ _ (h.h.obj o cs' b' g1 g2)
  ·exact lift2 _ _ (h.h.obj ob _ _ ho hb)
 ·rcases hat o b' cs1 h1 h3 with⟨n1,l1,g1,g2⟩|⟨rfl,_,rfl⟩<;>rcases hat o' _ cs2 h2 h4 with⟨n2,l2,g3,g4⟩|⟨rfl,_,hb2⟩
  ·exact h.h.inj _ _ _ _ _ g1 g3 g2 g4
  ·subst hb2;exact absurd (h.h.inj _ _ _ _ _ g1 ho g2 hb) n1
  ·exact absurd (h.h.inj _ _ _ _ _ g3 ho g4 hb) n2
  ·rfl
 ·have h0:=h.cnt x
  have e:IM { G with obs:=G.obs++[b] } (H.set ob none++[some cs]) w x=IM G H w x:=by
   unfold IM
   simp only[AF,Ao,AD,AJ,AU,List.range_succ,Aq,List.sum_append,AS,Ah,List.sum_cons,List.sum_nil,BA]
   have enew:Gq { G with obs:=G.obs++[b] } (H.set ob none++[some cs]) w H.length=Gq G H w ob:=by
    unfold Gq
    rw[AN sm,AN FR,hlen,ho,hb]
    simp
   have eold:Gq { G with obs:=G.obs++[b] } (H.set ob none++[some cs]) w ob=[]:=by
    unfold Gq
    rw[AX (by simpa using hob),A1 hob]
   have hone:=JO (n:=H.length) (f:=λo=>(Gq { G with obs:=G.obs++[b] } (H.set ob none++[some cs]) w o).count x) (g:=λo=>(Gq G H w o).count x) hob λo ho' hne=>by
    show CQ x _=CQ x _
    congr 1
    unfold Gq
    rw[AX (by simpa using ho'),AX FR,A6 (Ne.symm hne)]
   simp only[eold,Ba,BA]at hone
   rw[enew]
   exact hone
  rw[e];exact h0
def I4(cs:List AV)(vs:List Value):(((cs.map borrow1).zip vs).filterMap tok)=[]:=by
 rw[B3]
 intro p hp
 have hm:=(CZ (show(p.1,p.2)∈(cs.map borrow1).zip vs from hp)).1
 obtain⟨d,_,hd⟩:=AO.1 hm
 obtain⟨p1,p2⟩:=p
 simp only at hd
 subst hd
 exact Gd d p2
def QJ {t e ty ob len sz:Nat} {sv:AV} {xs cs:List AV} {u v:Value} (hc:ET F G [.msl ob 0 len sz,sv] H [u,v] w) (hx:Src G w (P.cellsOf e) xs v) (ho:H[ob]? =some (some cs)) (hu:P.underlying t=some (.slice e)) (hpos:0<P.cellsOf e)
  (hsz:sz=P.cellsOf e) (hcl0:cs.length=len*sz) (hcb:cs.map borrow1=cs) (hxs:∀x∈xs,x.cells.length=P.cellsOf e) (hz:GW P e=true) (hb:(len+xs.length)*P.bytesOf e<=140737488355328) (yp:len+xs.length<=9223372036854775807)
  (hr:R (.msl H.length 0 (len+xs.length) (P.cellsOf e)) (H.set ob none++[some (cs++(HP xs).map borrow1)])) :
  Fy P ((do let r<-Builtin.append_ #[t,t] ty #[u,v];pure (Next.value r):Sem Next).run P w) (Fi F G w R):=by
 subst hsz
 have hs:=hc.l.rel 0 _ _ rfl rfl
 unfold GW at hz
 split at hz
 case h_2=>cases hz
 rename_i i hi
 split at hz
 case h_2=>cases hz
 rename_i z hz'
 have hcz:z.cells.size=i.size:=by simpa using hz
 have hce:P.cellsOf e=i.size:=by simp[BJ,hi]
 have hbe:P.bytesOf e=i.bytes:=by simp[Cg,hi]
 rw[hbe]at hb
 have hcl:=Gz hxs
 have hlen:=hc.h.len
 have hcs':cs++(HP xs).map borrow1=(cs++HP xs).map borrow1:=by rw[Aq,hcb]
 cases hs with
 | msl _ _ _ _ b cap hob hl hm hrow0 =>
  obtain⟨C0,E0,hrow0,hfit0⟩:=hrow0
  obtain⟨C,E,hrow,hCs,hC⟩:=hc.h.at_obj ho hob ⟨C0,E0,hrow0⟩
  have hfit:0+cap*P.cellsOf e<=C.size:=by
   rw[hrow0]at hrow
   cases hrow
   exact hfit0
  have same:xs=[]->Fi F G w R (.slice (some ⟨b,0,none⟩) len cap) w:=by
   intro h0
   subst h0
   obtain⟨h1,h2⟩:=hc.moveObj ho hob
   refine⟨_,_,_,by simpa [HP]using hr, ?_,h2⟩
   have hnew:EV { G with obs:=G.obs++[b] } w (.msl H.length 0 len (P.cellsOf e)) (.slice (some ⟨b,0,none⟩) len cap) :=
    .msl _ _ _ _ b cap (by show(G.obs++[b])[H.length]? =some b;rw[AN FR,hlen];simp) hl hm ⟨C,E,hrow,hfit⟩
   exact(h1.one hnew (Fj (FX rfl rfl _) _ _ _) λb'=>by rw[FX rfl rfl];simp)
  rcases hx with⟨rfl,rfl⟩|⟨a,c,news,rfl,hnl,hnews,hone,hcell⟩
  ·refine .value (u:=.slice (some ⟨b,0,none⟩) len cap) (w':=w) ?_ (same rfl)
   simp[Builtin.append_,run_underlying hu,sizeOf,typeInfo,hi,Builtin.lenOf,Builtin.firstCells,hl,storeCells]
  ·by_cases h0:xs=[]
   ·subst h0
    have:news=[]:=CI (by simpa using hnl)
    subst this
    refine .value (u:=.slice (some ⟨b,0,none⟩) len cap) (w':=w) ?_ (same rfl)
    simp[Builtin.append_,run_underlying hu,sizeOf,typeInfo,hi,Builtin.lenOf,Builtin.firstCells,loadCells,loadCellsFrom,hl,storeCells]
   ·have hpos2:0<xs.length:=Ci.2 h0
    have hget:∀(i:Nat) (d:AV),((HP xs).map borrow1)[i]? =some d -> ∃c v,d=borrow1 c/\c.scalar=true/\news[i]? =some v/\EV G w c v:=by
     intro i d hd
     rw[Aa]at hd
     cases hci:(HP xs)[i]? with
     |none=>rw[hci]at hd;cases hd
     |some c =>
      rw[hci]at hd
      cases hd
      obtain⟨s1,v,s2,s3⟩:=hcell i c hci
      exact⟨c,v,rfl,s1,s2,s3⟩
    have hold:∀(i:Nat) (d:AV) (x:Value),cs[i]? =some d->C[i]? =some x->d.scalar=true/\EV G w d x/\d=borrow1 d:=by
     intro i d x hd hx'
     have hi':=(AC.1 hd).1
     obtain⟨g1,g2,_⟩:=hC.at_ i d x hd (by rw[Aj,iP hi',Ac];exact hx')
     refine⟨g1,g2, ?_⟩
     have:(cs.map borrow1)[i]? =some (borrow1 d):=by rw[Aa,hd];rfl
     rw[hcb,hd]at this
     exact Option.some.inj this
    by_cases hroom:len+xs.length<=cap
    ·have hf:=run_firstCells_some (P:=P) w i.size xs.length a xs.length c news (by rw[hnl,hce]) hnews
     have hfit2:len*P.cellsOf e+news.length<=C.size:=by
      rw[hnl,<- Az]
      have:=BE (P.cellsOf e) hroom
      omega
     have hst:=run_storeCells_at P b (len*P.cellsOf e) E news 0 C w hrow FR hone
     simp only[BA]at hst
     let C':Array Value:=(C.toList.take (len*P.cellsOf e)++news++C.toList.drop (len*P.cellsOf e+news.length)).toArray
     have hC':C'=(C.toList.take (len*P.cellsOf e)++news++C.toList.drop (len*P.cellsOf e+news.length)).toArray:=rfl
     have htl:(C.toList.take (len*P.cellsOf e)).length=len*P.cellsOf e:=Hy
     have hset:=hc.setObj ho hob hrow (C':=C') (by rw[hC'];simp;omega) (cs':=cs++(HP xs).map borrow1) (by rw[hC'];simp;omega)
      (λi d x hd hx'=>by
       rw[hC',Bb]at hx'
       by_cases hlt:i<cs.length
       ·rw[AX hlt]at hd
        rw[AE,AX FR,Aj,iP FR,Ac]at hx'
        obtain⟨g1,g2,g3⟩:=hold i d x hd hx'
        exact⟨g1,g2,GA (by rw[g3];exact Gd d _)⟩
       ·rw[AN FR]at hd
        obtain⟨c,v,rfl,s1,s2,s3⟩:=hget _ d hd
        have hlt2:=(AC.1 s2).1
        rw[AE,AN FR,htl,<- hcl0,AX hlt2,s2]at hx'
        cases hx'
        exact⟨(GT c).trans s1,s3.borrow1,GA (Gd c _)⟩) (vs:=[]) (us':=[]) (.nil F G w) (λx=>by rw[hcs',I4];simp[GS])
     have hlenset:(H.set ob (some (cs++(HP xs).map borrow1)))[ob]? =some (some (cs++(HP xs).map borrow1)):=A1 (AC.1 ho).1
     obtain⟨h1,h2⟩:=hset.1.moveObj hlenset hob
     refine .value (u:=.slice (some ⟨b,0,none⟩) (len+xs.length) cap) (w':=w.setRow b C') ?_ ⟨_,_,_,hr, ?_,hset.2.trans h2⟩
     ·rw[hce]at hst
      simp[Builtin.append_,run_underlying hu,sizeOf,typeInfo,hi,Builtin.lenOf,hroom,hf,G7,hst,hC',hce]
     ·rw[List.set_set]at h1
      have hrow':(w.setRow b C').heap[b]? =some (.cells C' E (0,0)):=setRow_heap w b C _ E _ hrow
      have hnew:EV { G with obs:=G.obs++[b] } (w.setRow b C') (.msl H.length 0 (len+xs.length) (P.cellsOf e)) (.slice (some ⟨b,0,none⟩) (len+xs.length) cap) :=
       .msl _ _ _ _ b cap (by show(G.obs++[b])[H.length]? =some b;rw[AN FR,hlen];simp) hroom hm ⟨_,E,hrow',by rw[hC'];simp;omega⟩
      exact(h1.one hnew (Fj (FX rfl rfl _) _ _ _) λb'=>by rw[FX rfl rfl];simp)
    ·let olds:List Value:=C.toList.take (len*P.cellsOf e)
     have holds:olds=C.toList.take (len*P.cellsOf e):=rfl
     have hol:olds.length=len*P.cellsOf e:=by rw[holds];simp;omega
     have hrun:=run_append_grow (P:=P) (ty:=ty) w t e i z hu hi hz' ⟨b,0,none⟩ len cap olds (by rw[hol,hce]) (λj v hv=>by
       rw[G7,AU,cell_of_row _ _ j C E _ hrow]
       rw[holds,Aj]at hv
       split at hv
       ·rwa [Ac]at hv
       ·cases hv) a xs.length c news (by rw[hnl,hce]) hnews FR FR  (growslice_fits FR (by simpa using hb))
     obtain⟨h1,h2⟩:=hc.freeze ho hob ⟨_,_,hrow⟩
     have hd:=h1.draw
     have hge:=grownCap_ge w (len+xs.length) cap e
     have hcm:grownCap w (len+xs.length) cap e<=maxLen:=grownCap_le_maxLen w _ cap e (by unfold maxLen;omega)
     have hsize:(olds.toArray++news.toArray++Builtin.zeroCells z.cells (grownCap w (len+xs.length) cap e - (len+xs.length))).size=grownCap w (len+xs.length) cap e*P.cellsOf e:=by
      simp only[Ch,BR,size_zeroCells,hcz,hol,hnl,<- hce,<- Az]
      congr 1;omega
     have hk:=h2.keeps
     refine .value (by rw[AK,hrun];rfl) ⟨_,_,_,hr, ?_,(h2.trans H9).trans (IU hd.h.fore _)⟩
     have hl2:(H.set ob none).length=H.length:=sm
     have:=hd.newObj (cs++(HP xs).map borrow1) (olds.toArray++news.toArray++Builtin.zeroCells z.cells (grownCap w (len+xs.length) cap e - (len+xs.length))) e (by rw[hsize];simp;rw[hcl,hcl0,<- Az];exact BE _ hge)
      (λi d x hd' hx'=>by
       by_cases hlt:i<cs.length
       ·rw[AX hlt]at hd'
        have hxo:olds[i]? =some x:=by
         have e0:=Pk (olds:=olds) (news:=news) (rest:=(Builtin.zeroCells z.cells (grownCap w (len+xs.length) cap e - (len+xs.length))).toList) i FR
         rw[Bl]at e0
         rw[e0,AX FR]at hx'
         exact hx'
        rw[holds,Aj,iP FR,Ac]at hxo
        obtain⟨g1,g2,g3⟩:=hold i d x hd' hxo
        exact⟨g1,(g2.keep hk).keep (H9 (F:=F)).keeps,GA (by rw[g3];exact Gd d _)⟩
       ·rw[AN FR]at hd'
        obtain⟨c,v,rfl,s1,s2,s3⟩:=hget _ d hd'
        have hlt2:=(AC.1 s2).1
        have e0:=Pk (olds:=olds) (news:=news) (rest:=(Builtin.zeroCells z.cells (grownCap w (len+xs.length) cap e - (len+xs.length))).toList) i FR
        rw[Bl]at e0
        rw[e0,AN FR,hol,<- hcl0,s2]at hx'
        cases hx'
        exact⟨(GT c).trans s1,((s3.keep hk).keep (H9 (F:=F)).keeps).borrow1,GA (Gd c _)⟩) (λx=>by rw[hcs',I4];simp)
      (v:=.msl H.length 0 (len+xs.length) (P.cellsOf e)) (u:=.slice (some ⟨w.heap.size,0,none⟩) (len+xs.length) (grownCap w (len+xs.length) cap e))
      (.msl _ _ _ _ w.heap.size _ (by
       show((G.setKind b .imm).obs++[w.drew.heap.size])[H.length]? =_
       rw[AN (by show G.obs.length<=_;omega)]
       show[w.drew.heap.size][H.length - G.obs.length]? =_
       rw[hlen];simp) hge hcm ⟨_,e,heap_alloc_new _ _,by rw[hsize];omega⟩) (FX rfl rfl _)
     exact this
def XS {t e ty:Nat} {sv:AV} {xs:List AV} {u v:Value} (hc:ET F G [.sl (some 0) [],sv] H [u,v] w) (hx:Src G w (P.cellsOf e) xs v) (hu:P.underlying t=some (.slice e)) (hpos:0<P.cellsOf e)
  (hxs:∀x∈xs,x.cells.length=P.cellsOf e) (hz:GW P e=true) (hpos2:0<xs.length) (hb:xs.length*P.bytesOf e<=140737488355328) (yp:xs.length<=9223372036854775807)
  (hr:R (.msl H.length 0 xs.length (P.cellsOf e)) (H++[some ((HP xs).map borrow1)])) :
  Fy P ((do let r<-Builtin.append_ #[t,t] ty #[u,v];pure (Next.value r):Sem Next).run P w) (Fi F G w R):=by
 have hs:=hc.l.rel 0 _ _ rfl rfl
 unfold GW at hz
 split at hz
 case h_2=>cases hz
 rename_i i hi
 split at hz
 case h_2=>cases hz
 rename_i z hz'
 have hcz:z.cells.size=i.size:=by simpa using hz
 have hce:P.cellsOf e=i.size:=by simp[BJ,hi]
 have hbe:P.bytesOf e=i.bytes:=by simp[Cg,hi]
 rw[hbe]at hb
 have hcl:=Gz hxs
 have hlen:=hc.h.len
 rcases hx with⟨rfl,rfl⟩|⟨a,c,news,rfl,hnl,hnews,hone,hcell⟩
 ·simp at hpos2
 have hget:∀(i:Nat) (d:AV),((HP xs).map borrow1)[i]? =some d -> ∃c v,d=borrow1 c/\c.scalar=true/\news[i]? =some v/\EV G w c v:=by
  intro i d hd
  rw[Aa]at hd
  cases hci:(HP xs)[i]? with
  |none=>rw[hci]at hd;cases hd
  |some c =>
   rw[hci]at hd
   cases hd
   obtain⟨s1,v,s2,s3⟩:=hcell i c hci
   exact⟨c,v,rfl,s1,s2,s3⟩
 have done:∀(C:Array Value) (cap:Nat),xs.length<=cap->cap<=maxLen->(∀(i:Nat) (v:Value),news[i]? =some v->C[i]? =some v)->cap*P.cellsOf e<=C.size ->
   Fi F G w R (.slice (some ⟨w.heap.size,0,none⟩) xs.length cap) (w.drew.alloc (.cells C e)):=by
  intro C cap h1 h2 h3 h4
  have hd:=hc.draw
  have hle:=BE (P.cellsOf e) h1
  refine⟨_,_,_,hr, ?_,H9.trans (IU hd.h.fore _)⟩
  exact hd.newObj ((HP xs).map borrow1) C e (by simp;rw[hcl];omega)
   (λi d x hd' hx'=>by
    obtain⟨c,v,rfl,s1,s2,s3⟩:=hget i d hd'
    rw[h3 i v s2]at hx'
    cases hx'
    exact⟨(GT c).trans s1,(s3.keep (H9 (F:=F)).keeps).borrow1,GA (Gd c _)⟩) (λx=>by rw[I4];simp)
   (v:=.msl H.length 0 xs.length (P.cellsOf e)) (u:=.slice (some ⟨w.heap.size,0,none⟩) xs.length cap)
   (.msl _ _ _ _ w.heap.size _ (by
    show(G.obs++[w.drew.heap.size])[H.length]? =_
    rw[AN FR,hlen];simp) h1 h2 ⟨_,e,heap_alloc_new _ _,FR⟩) (FX rfl rfl _)
 have hzs:∀k,(Builtin.zeroCells z.cells k).size=k*P.cellsOf e:=λk=>by rw[size_zeroCells,hcz,hce]
 have grown:∀cap0,(xs.length<=grownCap w xs.length cap0 e/\grownCap w xs.length cap0 e<=maxLen):=λcap0=>⟨grownCap_ge w xs.length cap0 e,grownCap_le_maxLen w _ cap0 e (by unfold maxLen;omega)⟩
 generalize hA:AV.sl (some 0) []=A at hs
 cases hs<;>cases hA
 ·have hrun:=run_append_nil (P:=P) w t ty e i z hu hi hz' a xs.length c news (by rw[hnl,hce]) hnews hpos2 FR FR
  refine .value (by rw[AK,hrun];rfl) (done _ _ (grown 0).1 (grown 0).2 (λi v hv=>?_) ?_)
  ·have hlt:=(AC.1 hv).1
   rw[Da (by simpa using hlt),Bb];exact hv
  ·have:=(grown 0).1
   simp only[Ch,BR,hzs,hnl,<- Az]
   exact BE _ FR
 ·rename_i ad
  have hrun:=run_append_grow (P:=P) (ty:=ty) w t e i z hu hi hz' ad 0 0 [] sm (λj v hv=>by simp at hv) a xs.length c news (by rw[hnl,hce]) hnews FR FR  (growslice_fits FR (by simpa using hb))
  simp only[AU]at hrun
  refine .value (by rw[AK,hrun];rfl) (done _ _ (grown 0).1 (grown 0).2 (λi v hv=>?_) ?_)
  ·have hlt:=(AC.1 hv).1
   have e0:=Pk (olds:=[]) (news:=news) (rest:=(Builtin.zeroCells z.cells (grownCap w xs.length 0 e - xs.length)).toList) i (by simpa using hlt)
   rw[Bl]at e0
   rw[e0];simpa using hv
  ·have:=(grown 0).1
   simp only[Ch,BR,hzs,hnl,<- Az,AJ,AU]
   exact BE _ FR
 ·rename_i hown _ _ _ _
  have:=(hown 0 rfl).2
  omega
def AAw {t e ty ob off len sz:Nat} {cs:List AV} {z:AV} {u:Value} (hc:ET F G [.msl ob off len sz] H [u] w) (ho:H[ob]? =some (some cs)) (hu:P.underlying t=some (.slice e)) (hzv:Fk P e=some z) (hsz:sz=z.cells.length) (hn:0<len)
  (hle:off+len*sz<=cs.length) (hr:R (.tup []) (H.set ob (some (splice cs off (Gb z len))))) :
  Fy P ((do let r<-Builtin.clear_ #[t] ty #[u];pure (Next.value r):Sem Next).run P w) (Fi F G w R):=by
 subst hsz
 have hp:=hc.l.rel 0 _ _ rfl rfl
 obtain⟨zv,hrun,hval,hcz,htz⟩:=M1 hzv
 have hz0:=hcz F G w
 have hzl:z.cells.length=zv.cells.size:=by simpa using hz0.len
 cases hp with
 | msl _ _ _ _ b cap hob hlc hmx hrw =>
  obtain⟨C0,E0,hrow0,_⟩:=hrw
  obtain⟨C,E,hrow,hCs,hC⟩:=hc.h.at_obj ho hob ⟨C0,E0,hrow0⟩
  let L:List Value:=(Builtin.zeroCells zv.cells len).toList
  have hL:L=(Ak (len*zv.cells.size)).map λi=>zv.cells[i % zv.cells.size]!:=by
   show(Builtin.zeroCells zv.cells len).toList=_
   simp[Builtin.zeroCells]
  have hXl:(Gb z len).length=len*z.cells.length:=by simp[Gb]
  have hLl:L.length=len*z.cells.length:=by rw[hL,hzl];simp
  have pair:∀(i:Nat) (c:AV) (v:Value),(Gb z len)[i]? =some c->L[i]? =some v -> ∃j:Nat,z.cells[j]? =some c/\zv.cells.toList[j]? =some v:=by
   intro i c v h1 h2
   have hi:i<len*z.cells.length:=by have:=(AC.1 h1).1;omega
   have hpos:0<z.cells.length:=Nat.pos_of_ne_zero λh=>by rw[h]at hi;simp at hi
   have hj:i % z.cells.length<z.cells.length:=C9 _ hpos
   refine⟨i % z.cells.length, ?_, ?_⟩
   ·unfold Gb at h1
    rw[Aa,CS hi]at h1
    simp only[BQ,Option.some.injEq]at h1
    rw[AH hj]at h1 ⊢
    simpa using h1
   ·rw[hL,Aa,<- hzl,CS hi]at h2
    simp only[BQ,Option.some.injEq]at h2
    have hj2:i % z.cells.length<zv.cells.size:=FR
    rw[Ac,Ai hj2,<- h2,getElem!_pos zv.cells _ hj2]
  have hcv:Cells F G w (Gb z len) L:=⟨by rw[hXl,hLl],λi c v h1 h2=>by obtain⟨j,g1,g2⟩:=pair i c v h1 h2;exact hz0.at_ j c v g1 g2⟩
  have htk:Gw (Gb z len) L=[]:=by
   unfold Gw at htz ⊢
   rw[B3]at htz ⊢
   intro p hp
   obtain⟨i,hi⟩:=Ae hp
   rw[BZ]at hi
   obtain⟨j,g1,g2⟩:=pair i _ _ hi.1 hi.2
   exact htz p (AB (BZ.2 ⟨g1,g2⟩))
  have hst:=run_storeCells_at P b off E L 0 C w hrow (by rw[hLl];omega) hcv.oneCell
  simp only[BA]at hst
  let C':Array Value:=(C.toList.take off++L++C.toList.drop (off+L.length)).toArray
  have hC':C'=(C.toList.take off++L++C.toList.drop (off+L.length)).toArray:=rfl
  have hsize:C'.size=C.size:=by rw[hC'];simp;omega
  have hrun2:(Builtin.clear_ #[t] ty #[.slice (some ⟨b,off,none⟩) len cap]).run P w = .ok (.tuple #[]) (w.setRow b C'):=by
   obtain⟨m,rfl⟩:∃m,len=m+1:=⟨len - 1,FR⟩
   simp[Builtin.clear_,run_underlying hu,hrun,hst,hC',L]
  have hlen2:(splice cs off (Gb z len)).length=cs.length:=Mi FR
  have hspl:C'.toList.take cs.length=Hp (C.toList.take cs.length) off L:=by
   rw[hC']
   have:=TS C.toList L off cs.length FR (by simpa using hCs)
   simpa [Hp]using this
  have hCC:=hC.splice (off:=off) hcv
  have hset:=hc.setObj ho hob hrow (C':=C') hsize (cs':=splice cs off (Gb z len)) (by rw[hlen2,hsize];exact hCs) (λi c y hc' hy=>?_) (vs:=[.tup []]) (us':=[.tuple #[]])
   (.cons (.tup [] #[] rfl (λ_ h=>by cases h) (λ_ _ _ h=>by cases h)) (Fj (by simp[Gs,LG,AV.flat,ID]) F G w) (.nil F G w)) (λy=>?_)
  ·exact .value (by rw[AK,hrun2];rfl) ⟨.tup [],_,G,hr,hset.1,hset.2⟩
  ·have hi:=(AC.1 hc').1
   refine hCC.at_ i c y hc' ?_
   rw[<- hspl,Aj,iP FR]
   simpa using hy
  ·have e0:Gs (.tup []) (.tuple #[])=[]:=by simp[Gs,LG,AV.flat,ID]
   rw[Fc,GS,e0,Fc,GS,FX rfl rfl]
   have z1:(splice cs off (Gb z len)).zip C'.toList=(splice cs off (Gb z len)).zip (Hp (C.toList.take cs.length) off L):=by
    have:=Ls (splice cs off (Gb z len)) C'.toList
    rw[hlen2,hspl]at this;exact this
   rw[z1,Ls cs C.toList]
   have h1:=Ny (cs:=cs) (xs:=Gb z len) (vs:=C.toList.take cs.length) (ys:=L) (off:=off) hC.len FR y
   rw[htk]at h1
   unfold Gw at h1
   simp only[Ba]at h1 ⊢
   omega
end
end Go.AI
namespace Go.AI
open Go.MapKept
section
variable{P:Program}{F:Nat->Prop}{G:Gh}{w:World}{H:cj}{R:AV->cj->Prop}
def Md{es:List AV}(h:∀c∈es,c.scalar=true):HP es=es:=by
 induction es with
 |nil=>rfl
 |cons c es ih =>
  simp only[HP,A5,Lg (h c sm)]
  have:=ih λc' hc'=>h c' (by simp[hc'])
  simp only[HP]at this
  rw[this];rfl
def XP {t ta e n:Nat} {cs:List AV} {off:Nat} {u:Value} {rest:List AV} {urest:List Value} (hc:ET F G (.cptr cs off::rest) H (u::urest) w) (hu:P.underlying t=some (.pointer ta)) (ha:P.underlying ta=some (.array n e))
  (h1:P.cellsOf e=1) (hle:off+n<=cs.length) (hm:n<=9223372036854775807) (hr:R (.sl none ((cs.drop off).take n)) H) :
  Fy P ((do let r<-Instr.sliceAt t u none none none;pure (Next.value r):Sem Next).run P w) (Fi F G w R):=by
 have hx:=hc.l.rel 0 _ _ rfl rfl
 cases hx with
 | cptr _ _ b q f g1 g2 =>
  have hb:=HF (P:=P) (isSlice:=false) (len:=n) (cap:=n) (.none) (.none) .none (λh=>by cases h) sm sm  sm sm  w
  have hsz:=Ge (P:=P) (t:=e) (by rw[h1];exact D8) w
  have hlen:((cs.drop off).take n).length=n:=Hy
  have hget:∀(i:Nat) (c:AV),((cs.drop off).take n)[i]? =some c->cs[off+i]? =some c:=λi c hi=>by
   rw[Aj]at hi
   split at hi
   ·rwa [A2]at hi
   ·cases hi
  have hsc:∀c∈(cs.drop off).take n,c.scalar=true:=λc hc'=>by
   obtain⟨i,hi⟩:=Ae hc'
   exact(g1 _ c (hget i c hi)).1
  refine .value (u:=.slice (some ⟨b,q+off,none⟩) n n) (w':=w) ?_ (Fi.plain hc hr ?_ (GP rfl _))
  ·simp only[Instr.sliceAt,Instr.slice,AK,run_underlying hu,AZ,asAddr,Ad,run_underlying ha,hb,hsz,h1]
   simp[G7]
  ·have hv:=VRel.sl (G:=G) (w:=w) none ((cs.drop off).take n) 1 b (q+off) n (λi=>f (off+i)) (λx hx=>by rw[Lg (hsc x hx)];rfl) (λ_ h=>by cases h) FR (by unfold maxLen;omega)
    (λi c hi=>by
     rw[Md hsc]at hi
     have:=g1 _ c (hget i c hi)
     rw[Ay];exact this)
    (λi c hi=>by
     rw[Md hsc]at hi
     exact g2 _ c (hget i c hi))
   rw[hlen]at hv
   exact hv
def VN {t e n:Nat} {cs:List AV} {off:Nat} {u:Value} {rest:List AV} {urest:List Value} (hc:ET F G (.cptr cs off::rest) H (u::urest) w) (ha:P.underlying t=some (.array n e))
  (h1:P.cellsOf e=1) (hle:off+n<=cs.length) (hm:n<=9223372036854775807) (hr:R (.sl none ((cs.drop off).take n)) H) :
  Fy P ((do let r<-Instr.sliceAt t u none none none;pure (Next.value r):Sem Next).run P w) (Fi F G w R):=by
 have hx:=hc.l.rel 0 _ _ rfl rfl
 cases hx with
 | cptr _ _ b q f g1 g2 =>
  have hb:=HF (P:=P) (isSlice:=false) (len:=n) (cap:=n) (.none) (.none) .none (λh=>by cases h) sm sm  sm sm  w
  have hsz:=Ge (P:=P) (t:=e) (by rw[h1];exact D8) w
  have hlen:((cs.drop off).take n).length=n:=Hy
  have hget:∀(i:Nat) (c:AV),((cs.drop off).take n)[i]? =some c->cs[off+i]? =some c:=λi c hi=>by
   rw[Aj]at hi
   split at hi
   ·rwa [A2]at hi
   ·cases hi
  have hsc:∀c∈(cs.drop off).take n,c.scalar=true:=λc hc'=>by
   obtain⟨i,hi⟩:=Ae hc'
   exact(g1 _ c (hget i c hi)).1
  refine .value (u:=.slice (some ⟨b,q+off,none⟩) n n) (w':=w) ?_ (Fi.plain hc hr ?_ (GP rfl _))
  ·simp only[Instr.sliceAt,Instr.sureAddr,AK,AZ,Ad,run_underlying ha,hb,hsz,h1]
   simp[G7]
  ·have hv:=VRel.sl (G:=G) (w:=w) none ((cs.drop off).take n) 1 b (q+off) n (λi=>f (off+i)) (λx hx=>by rw[Lg (hsc x hx)];rfl) (λ_ h=>by cases h) FR (by unfold maxLen;omega)
    (λi c hi=>by
     rw[Md hsc]at hi
     have:=g1 _ c (hget i c hi)
     rw[Ay];exact this)
    (λi c hi=>by
     rw[Md hsc]at hi
     exact g2 _ c (hget i c hi))
   rw[hlen]at hv
   exact hv
def Z6{t e n o off:Nat}{cs:List AV}{u:Value}{rest:List AV}{urest:List Value}(hc:ET F G (.ptr o off::rest) H (u::urest) w)(ha:P.underlying t=some (.array n e))
  (hi:(P.info? e).isSome=true)(ho:H[o]? =some (some cs))(hle:off+n*P.cellsOf e<=cs.length)(hm:n<=9223372036854775807)(hr:R (.msl o off n (P.cellsOf e)) H):
  Fy P ((do let r<-Instr.sliceAt t u none none none;pure (Next.value r):Sem Next).run P w) (Fi F G w R):=by
 have hx:=hc.l.rel 0 _ _ rfl rfl
 obtain⟨i,hi'⟩:=Bc.1 hi
 have hsize:∀w,(sizeOf e).run P w = .ok (P.cellsOf e) w:=λw=>by simp[sizeOf,typeInfo,hi',BJ]
 cases hx with
 |ptr _ _ b hob hcell =>
  obtain⟨C0,E0,hcell⟩:=hcell
  obtain⟨_,C,E,g2,g3,_⟩:=(hc.h.obj o cs b ho hob).of_cells hcell
  have hb:=HF (P:=P) (isSlice:=false) (len:=n) (cap:=n) (.none) (.none) .none (λh=>by cases h) sm sm  sm sm  w
  refine .value (u:=.slice (some ⟨b,off,none⟩) n n) (w':=w) ?_ (Fi.plain hc hr (.msl _ _ _ _ b n hob (AT _) (by unfold maxLen;omega) ⟨C,E,g2,FR⟩) (FX rfl rfl _))
  simp only[Instr.sliceAt,Instr.sureAddr,AK,AZ,Ad,run_underlying ha,hb,hsize]
  simp[G7]
def XQ{t e:Nat}{own:Option Nat}{es:List AV}{u:Value}{rest:List AV}{urest:List Value}{hi mx:Option Value}(hc:ET F G (.sl own es::rest) H (u::urest) w)(hu:P.underlying t=some (.slice e))
  (hh:EU hi (some 0))(hm:EU mx (some 0))(hz:(P.info? e).isSome=true)(hr:R (.sl (some 0) []) H):
  Fy P ((do let r<-Instr.sliceAt t u none hi mx;pure (Next.value r):Sem Next).run P w) (Fi F G w R):=by
 have hx:=hc.l.rel 0 _ _ rfl rfl
 obtain⟨i,hi'⟩:=Bc.1 hz
 have hsize:∀w,(sizeOf e).run P w = .ok (P.cellsOf e) w:=λw=>by simp[sizeOf,typeInfo,hi',BJ]
 have run:∀(a:Option Addr) (len cap:Nat),(Instr.sliceAt t (.slice a len cap) none hi mx).run P w = .ok (.slice a 0 0) w:=λa len cap=>by
  have hb:=HF (P:=P) (isSlice:=true) (len:=len) (cap:=cap) .none hh hm (λ_=>rfl) sm sm  sm sm  w
  simp only[Instr.sliceAt,Instr.slice,AK,run_underlying hu,AZ,hb,hsize]
  simp
 have nt:∀a:Option Addr,Gs (.sl (some 0) []) (.slice a 0 0)=[]:=λa=>by cases a<;>simp[Gs,LG,AV.flat,AV.cells,ID,Value.cells,tok]
 cases hx with
 |slnil=>exact .value (by rw[AK,run];rfl) (Fi.plain hc hr (.slnil _) (nt _))
 |slany _ a=>exact .value (by rw[AK,run];rfl) (Fi.plain hc hr (.slany _ _) (nt _))
 |sl _ _ sz b q cap f hsz hown hl hmx hcs hus=>exact .value (by rw[AK,run];rfl) (Fi.plain hc hr (.slany _ _) (nt _))
def y_{t:TypeId}{z:AV}(h:Fk P t=some z): ∃ zv,(∀ w,(zeroValue t).run P w = .ok zv w)/\z.isVal=true/\EV G w z zv:=by
 obtain⟨zv0,hrun,hval,hcells,_⟩:=M1 (P:=P) h
 refine⟨zv0,hrun,hval, ?_⟩
 unfold Fk at h
 split at h
 ·rename_i cs hz
  split at h
  ·cases h
   cases hi:P.info? t with
   |none=>rw[hi]at hz;cases hz
   |some i =>
    rw[hi]at hz
    have hz':i.zero=some (.agg cs):=hz
    have h2:(zeroValue t).run P default = .ok (.agg cs) default:=by simp[zeroValue,typeInfo,hi,hz']
    rw[hrun default]at h2
    cases h2
    have:=(pH (hcells (λ_=>False) G w)).1
    exact this
  ·cases h
 ·rename_i zv hne hz
  split at h
  ·cases h
   cases hi:P.info? t with
   |none=>rw[hi]at hz;cases hz
   |some i =>
    rw[hi]at hz
    have hz':i.zero=some zv:=hz
    have h2:(zeroValue t).run P default = .ok zv default:=by simp[zeroValue,typeInfo,hi,hz']
    rw[hrun default]at h2
    cases h2
    exact VRel.constT G w _ _
  ·cases h
 ·cases h
def ff{t:TypeId}{r:Option Value}{vs:List AV}{us:List Value}(hc:ET F G vs H us w)(hrun:(Instr.makeMap t r).run P w = .ok (.map (some w.heap.size)) (w.alloc (.map #[] 0)))(hr:R (.mapr H.length) (H++[some (J6 [])])):
  Fy P ((do let v<-Instr.makeMap t r;pure (Next.value v):Sem Next).run P w) (Fi F G w R):=by
 refine .value (by rw[AK,hrun];rfl) ⟨_,_,G.newK w.heap.size .map,hr, ?_,NM hc.h.fore _ _⟩
 have hkn:(G.newK w.heap.size .map).kind w.heap.size = .map:=G.kind_set _ _
 have hlen:=hc.h.len
 refine hc.newG .map (.map #[] 0) (J6 []) ⟨λhF=>absurd (hc.h.fore _ hF) (Bs _), ?_⟩ (.cons (.mapr _ _ ?_ (by rw[size_alloc];omega) hkn) (Fj (GP rfl _) F _ _) (.nil F _ _)) (λb=>?_)
 ·rw[hkn]
  exact⟨[],#[],0,heap_alloc_new _ _,rfl,rfl,(λi p m h=>by simp at h),rfl,λi m h=>by simp at h⟩
 ·show(G.obs++[w.heap.size])[H.length]? =_
  rw[AN FR,hlen,AP];rfl
 ·rw[Fc,GS,GP rfl];simp[WW]
def mS{t:TypeId}(hc:ET F G [] H [] w)(hr:R (.mapr H.length) (H++[some (J6 [])])):
  Fy P ((do let v<-Instr.makeMap t none;pure (Next.value v):Sem Next).run P w) (Fi F G w R) :=
 ff hc (by simp[Instr.makeMap]) hr
def T2{t kt et:TypeId}{k:IntKind}{n:Int}{u:Value}(hc:ET F G [.int k n] H [u] w)(hu:P.underlying t=some (.map kt et))(hr:R (.mapr H.length) (H++[some (J6 [])])):
  Fy P ((do let v<-Instr.makeMap t (some u);pure (Next.value v):Sem Next).run P w) (Fi F G w R):=by
 have hx:=hc.l.rel 0 _ _ rfl rfl
 cases hx
 exact ff hc (by simp[Instr.makeMap,run_underlying hu,asInt,asIntOf,Bd]) hr
def Sq{m:AV}{um:Value}{es:List (AV×AV)}{vs:List AV}{us:List Value}(hc:ET F G vs H us w)(hm:EV G w m um)(he:Is H m=some es):
  (m = .nilm/\um = .map none/\es=[]) \/ ∃o b ms cl,m = .mapr o/\um = .map (some b)/\G.obs[o]? =some b/\G.kind b = .map/\w.heap[b]? =some (.map ms cl)/\es.length=ms.size/\H[o]? =some (some (J6 es)) /\
   ∀(i:Nat) (p:AV×AV) (x:MapEntry),es[i]? =some p->ms[i]? =some x->p.1.isVal=true/\p.2.isVal=true/\EV G w p.1 x.key/\EV G w p.2 x.val:=by
 cases hm with
 |nilm=>simp only[Is,Option.some.injEq]at he;exact .inl ⟨rfl,rfl,he.symm⟩
 | mapr o b h hb hk =>
  refine .inr ?_
  simp only[Is]at he
  split at he
  ·rename_i cs hcs
   have hi:=(hc.h.obj o cs b hcs h).is
   rw[hk]at hi
   obtain⟨es',ms,cl,g1,g2,g3,g4,_⟩:=hi
   subst g2
   rw[TP]at he
   cases he
   exact⟨o,b,ms,cl,rfl,rfl,h,hk,g1,g3,hcs,g4⟩
  ·cases he
 |_=>simp[Is]at he
def L4{o b:Nat}{ms:Array MapEntry}{cl:Nat}{cs:List AV}{vs:List AV}{us:List Value}(hc:ET F G vs H us w)(ho:H[o]? =some (some cs))(hb:G.obs[o]? =some b)(hk:G.kind b = .map)(hms:w.heap[b]? =some (.map ms cl)):
  cl=ms.size /\ ∀(i:Nat) (m:MapEntry),ms[i]? =some m->m.born=i:=by
 have hi:=(hc.h.obj o cs b ho hb).is
 rw[hk]at hi
 obtain⟨es',ms',cl',g1,_,_,_,g5⟩:=hi
 rw[hms]at g1;cases g1
 exact g5
def qu {kt:TypeId} {D:Value->Prop} (K:KLaw P kt D) {k:AV} {uk:Value} {es:List (AV×AV)} {ms:Array MapEntry} (hk:EV G w k uk) (hkD : ∃ v,Sz k=some v/\D v) (hl:es.length=ms.size)
  (hD:∀a∈es.map (·.1),∃v,Sz a=some v/\D v) (hd:Rx es)
  (hr:∀(i:Nat) (p:AV×AV) (x:MapEntry),es[i]? =some p->ms[i]? =some x->p.1.isVal=true/\p.2.isVal=true/\EV G w p.1 x.key/\EV G w p.2 x.val) :
  D uk/\((JG k es 0=none/\(Instr.findKey kt uk ms.toList).run P w = .ok none w) \/
   ∃j p x,JG k es 0=some (j,p.2)/\es[j]? =some p/\ms[j]? =some x/\x.key=uk/\(Instr.findKey kt uk ms.toList).run P w = .ok (some (j,x.val)) w):=by
 obtain⟨vk,hvk,hDk⟩:=hkD
 have huk:=Vv hvk hk
 subst huk
 have at_:∀(j:Nat) (x:MapEntry),ms[j]? =some x -> ∃p,es[j]? =some p/\Sz p.1=some x.key/\D x.key:=λj x hj=>by
  have hlt:=(An.1 hj).1
  have hp:es[j]? =some es[j]:=AH FR
  obtain⟨v,hv,hDv⟩:=hD es[j].1 (AO.2 ⟨_,AB hp,rfl⟩)
  have:=Vv hv (hr j _ x hp hj).2.2.1
  subst this
  exact⟨_,hp,hv,hDv⟩
 refine⟨hDk, ?_⟩
 rcases K.find w hDk ms.toList (λx hx=>by
  obtain⟨j,hj⟩:=Ae hx
  rw[Ac]at hj
  obtain⟨p,_,_,h⟩:=at_ j x hj
  exact h)with⟨h1,h2⟩|⟨j,x,h1,h2,h3⟩
 ·refine .inl ⟨Wi λp hp=>?_,h1⟩
  obtain⟨j,hj⟩:=Ae hp
  have hlt:=(AC.1 hj).1
  have hx:ms[j]? =some (ms[j]' FR):=Ai _
  obtain⟨p',hp',hv',_⟩:=at_ j _ hx
  rw[hj]at hp';cases hp'
  cases hq:Hr p.1 k with
  |false=>rfl
  |true =>
   exact absurd ((Pi hv' hvk).1 hq) (h2 _ (by rw[<- Ac]at hx;exact AB hx))
 ·rw[Ac]at h2
  obtain⟨p,hp,hv,_⟩:=at_ j x h2
  have hke:Hr p.1 k=true:=(Pi hv hvk).2 h3
  refine .inr ⟨j,p,x, ?_,hp,h2,h3,h1⟩
  have:=ji (k:=k) (i:=0) hp hke (λl q hq hlt=>by
   have h4:=List.pairwise_iff_getElem.1 hd l j (AC.1 hq).1 (AC.1 hp).1 hlt
   rw[(AC.1 hq).2,(AC.1 hp).2]at h4
   have hq2:ms[l]? =some (ms[l]'(by have:=(AC.1 hq).1;omega)):=Ai _
   obtain⟨q',hq',hvq,_⟩:=at_ l _ hq2
   rw[hq]at hq';cases hq'
   cases hqe:Hr q.1 k with
   |false=>rfl
   |true =>
    have e1:=(Pi hvq hvk).1 hqe
    have e2:Hr q.1 p.1=true:=(Pi hvq hv).2 (e1.trans h3.symm)
    rw[e2]at h4;cases h4)
  rw[AU]at this
  exact this
def s7 {t kt et:TypeId} {ok:Bool} {m k:AV} {um uk:Value} {es:List (AV×AV)} {z:AV} (hc:ET F G [m,k] H [um,uk] w) (hu:P.underlying t=some (.map kt et)) (he:Is H m=some es)
  (hk:Mq P kt (k::es.map (·.1))) (hd:Rx es) (hz:Fk P et=some z) (hr:R (fj ok z (JG k es 0)) H) :
  Fy P ((do let r<-Instr.lookup t um uk ok;pure (Next.value r):Sem Next).run P w) (Fi F G w R):=by
 have hm:=hc.l.rel 0 _ _ rfl rfl
 have hkr:=hc.l.rel 1 _ _ rfl rfl
 obtain⟨D,K,hD⟩:=hk
 obtain⟨zv,hzr,hzval,hzv⟩:=y_ (P:=P) (G:=G) (w:=w) hz
 have out:∀(v:AV) (u:Value) (b:Bool),EV G w v u->v.isVal=true->R (if ok=true then .tup [v.borrow,.bool b]else v.borrow) H ->
   Fy P (.ok (.value (if ok=true then .tuple #[u,.bool b]else u)) w) (Fi F G w R):=by
  intro v u b hv hval hR
  cases ok with
  |false=>exact Fi.plain hc hR hv.borrow (Gc _ _)
  | true =>
   refine Fi.plain hc hR ?_ ?_
   ·refine .tup _ _ rfl (λc hc'=>?_) (λi c x h1 h2=>?_)
    ·simp only[List.mem_cons,List.not_mem_nil,or_false]at hc'
     rcases hc' with rfl|rfl
     ·cases v<;>first|rfl|cases hval
     ·rfl
    ·match i with
     | 0=>simp at h1 h2;subst h1;subst h2;exact hv.borrow
     | 1=>simp at h1 h2;subst h1;subst h2;exact .bool b
     |i+2=>simp at h1
   ·refine GP ?_ _
    show((([v.borrow,AV.bool b]:List AV).flatMap AV.cells).any GB)=false
    have:∀c∈v.borrow.cells,GB c=false:=λc hc'=>by
     have hb:v.borrow.cells=v.cells.map borrow1:=by cases v<;>first|rfl|cases hval
     rw[hb]at hc'
     obtain⟨d,_,rfl⟩:=AO.1 hc'
     cases d<;>rfl
    simp only[A5,List.flatMap_nil,Af,List.any_append,CC]
    refine⟨?_,rfl⟩
    rw[Bh]
    intro c hc' h
    rw[this c hc']at h
    cases h
 rcases Sq hc hm he with⟨rfl,rfl,rfl⟩|⟨o,b,ms,cl,rfl,rfl,hob,hkb,hms,hl,hH,hrel⟩
 ·obtain⟨v,hv,hDv⟩:=hD k sm
  have huk:=Vv hv hkr
  subst huk
  have hfind:(Instr.findKey kt uk []).run P w = .ok none w:=by
   rcases K.find w hDv [] (λ_ h=>by cases h)with⟨h1,_⟩|⟨j,e,_,h2,_⟩
   ·exact h1
   ·simp at h2
  have hrun:(do let r<-Instr.lookup t (.map none) uk ok;pure (Next.value r):Sem Next).run P w = .ok (.value (if ok=true then .tuple #[zv,.bool false]else zv)) w:=by
   simp[Instr.lookup,run_underlying hu,Bd,K.check w _ hDv,hfind,hzr]
  rw[hrun]
  exact out z zv false hzv hzval hr
 ·obtain⟨hDk,hf⟩:=qu K hkr (hD k sm) hl (λa ha=>hD a (by simp at ha ⊢;exact .inr ha)) hd hrel
  rcases hf with⟨f1,f2⟩|⟨j,p,x,f1,f2,f3,f4,f5⟩
  ·have hrun:(do let r<-Instr.lookup t (.map (some b)) uk ok;pure (Next.value r):Sem Next).run P w = .ok (.value (if ok=true then .tuple #[zv,.bool false]else zv)) w:=by
    simp[Instr.lookup,run_underlying hu,Bd,MapKept.run_getObj_map hms,K.check w _ hDk,f2,hzr]
   rw[hrun]
   rw[f1]at hr
   exact out z zv false hzv hzval hr
  ·have hrun:(do let r<-Instr.lookup t (.map (some b)) uk ok;pure (Next.value r):Sem Next).run P w = .ok (.value (if ok=true then .tuple #[x.val,.bool true]else x.val)) w:=by
    simp[Instr.lookup,run_underlying hu,Bd,MapKept.run_getObj_map hms,K.check w _ hDk,f5]
   rw[hrun]
   rw[f1]at hr
   exact out p.2 x.val true (hrel j p x f2 f3).2.2.2 (hrel j p x f2 f3).2.1 hr
def Z8 {t kt et:TypeId} {o:Nat} {k v:AV} {um uk uv:Value} {es:List (AV×AV)} (hc:ET F G [.mapr o,k,v] H [um,uk,uv] w) (hu:P.underlying t=some (.map kt et)) (he:Is H (.mapr o)=some es)
  (hk:Mq P kt (k::es.map (·.1))) (hd:Rx es) (hval:v.isVal=true) (hr:R .undef (H.set o (some (J6 (Mn es k v))))) :
  Fy P ((do Instr.mapUpdate t um uk uv;pure Next.skip:Sem Next).run P w) (Fi F G w R):=by
 have hm:=hc.l.rel 0 _ _ rfl rfl
 have hkr:=hc.l.rel 1 _ _ rfl rfl
 have hvr:=hc.l.rel 2 _ _ rfl rfl
 obtain⟨D,K,hD⟩:=hk
 rcases Sq hc hm he with⟨h,_⟩|⟨o',b,ms,cl,ho,rfl,hob,hkb,hms,hl,hH,hrel⟩
 ·cases h
 cases ho
 obtain⟨hDk,hf⟩:=qu K hkr (hD k sm) hl (λa ha=>hD a (by simp at ha ⊢;exact .inr ha)) hd hrel
 have hkval:k.isVal=true:=ABX (hD k sm).choose_spec.1
 have hsp:(G.kind b).sp=true:=by rw[hkb];rfl
 have hor:=hc.h.obj o _ b hH hob
 obtain⟨hcl,hborn⟩:=L4 hc hH hob hkb hms
 have lay:∀(ms':Array MapEntry) (cl':Nat) (es':List (AV×AV)),es'.length=ms'.size->(cl'=ms'.size /\ ∀(i:Nat) (m:MapEntry),ms'[i]? =some m->m.born=i)->R .undef (H.set o (some (J6 es'))) ->
   (∀(i:Nat) (p:AV×AV) (x:MapEntry),es'[i]? =some p->ms'[i]? =some x->p.1.isVal=true/\p.2.isVal=true/\EV G w p.1 x.key/\EV G w p.2 x.val) ->
   Fi F G w R Go.undef (w.putObj b (.map ms' cl')):=by
  intro ms' cl' es' hl' hbo hR hrel'
  have he2:Ext F G w G (w.putObj b (.map ms' cl')):=Ki hor.own hms (λ_ _ _ e=>by cases e)
  obtain⟨h1,h2⟩:=hc.setSp (X:=.map ms' cl') hH hob hsp (λ_ _ _ e=>by cases e) (cs':=J6 es') ⟨hor.own,by
   rw[hkb]
   exact⟨es',ms',cl',World.putObj_heap_same hor.lt,rfl,hl',(λi p x g1 g2 =>
    let⟨a1,a2,a3,a4⟩:=hrel' i p x g1 g2;⟨a1,a2,a3.keep he2.keeps,a4.keep he2.keeps⟩),hbo⟩⟩
   (vs:=[.undef]) (us':=[Go.undef]) (.cons (.undef _) (Fj (Ha _) F G w) (.nil F G w)) (λx=>by rw[Fc,GS,Ha];simp)
  exact⟨_,_,G,hR,h1,h2⟩
 rcases hf with⟨f1,f2⟩|⟨j,p,x,f1,f2,f3,f4,f5⟩
 ·have hrun:(do Instr.mapUpdate t (.map (some b)) uk uv;pure Next.skip:Sem Next).run P w = .ok .skip (w.putObj b (.map (ms.push { key:=uk,val:=uv,born:=cl }) (cl+1))):=by
   simp[Instr.mapUpdate,run_underlying hu,Bd,MapKept.run_getObj_map hms,K.check w _ hDk,f2,MapKept.run_setObj_map _ hms,World.putObj]
  rw[hrun]
  simp only[Mn,f1]at hr
  refine lay _ _ (es++[(k,v)]) (by simp[hl]) ⟨by simp[hcl],λi m g=>?_⟩ hr λi p x g1 g2=>?_
  ·by_cases hi:i<ms.size
   ·rw[D9 hi]at g
    exact hborn i m (by rw[Ai hi];exact g)
   ·have hlt:=(An.1 g).1
    simp only[Array.size_push]at hlt
    have:i=ms.size:=FR
    subst this
    rw[D_]at g
    cases g
    exact hcl
  by_cases hi:i<es.length
  ·rw[AX hi]at g1
   rw[D9 FR]at g2
   exact hrel i p x g1 (by rw[Ai FR];exact g2)
  ·have hlt:=(AC.1 g1).1
   simp only[AF,AD,AJ]at hlt
   have hie:i=es.length:=FR
   subst hie
   rw[AN (AT _),AP]at g1
   rw[hl,D_]at g2
   cases g1;cases g2
   exact⟨hkval,hval,hkr,hvr⟩
 ·have hrun:(do Instr.mapUpdate t (.map (some b)) uk uv;pure Next.skip:Sem Next).run P w = .ok .skip (w.putObj b (.map (ms.modify j λe=>{ e with key:=uk,val:=uv }) cl)):=by
   simp[Instr.mapUpdate,run_underlying hu,Bd,MapKept.run_getObj_map hms,K.check w _ hDk,f5,f3,f4,K.stays w hDk,MapKept.run_setObj_map _ hms,World.putObj]
  rw[hrun]
  simp only[Mn,f1]at hr
  refine lay _ _ (es.set j (k,v)) (by simp[hl]) ⟨by simp[hcl],λi m g=>?_⟩ hr λi q y g1 g2=>?_
  ·rw[D']at g
   split at g
   ·rename_i hij
    subst hij
    rw[f3]at g
    simp only[BQ,Option.some.injEq]at g
    rw[<- g]
    have hb:x.born=j:=hborn _ _ f3
    exact hb
   ·exact hborn i m g
  rw[Ax]at g1
  rw[D']at g2
  split at g1
  ·rename_i hij
   subst hij
   split at g1
   ·rw[iP rfl,f3]at g2
    cases g1;cases g2
    exact⟨hkval,hval,hkr,hvr⟩
   ·cases g1
  ·rename_i hij
   rw[iN hij]at g2
   exact hrel i q y g1 g2
end
end Go.AI
namespace Go.AI
section
variable{P:Program}{F:Nat->Prop}{G:Gh}{w:World}{H:cj}{R:AV->cj->Prop}
def lg(l:List Nat):SW (l.map λ(i:Nat)=>AV.int .i64 (i:Int))=l.map λ(i:Nat)=>(i:Int):=by
 induction l with
 |nil=>rfl
 |cons x xs ih =>
  show(x:Int)::SW (xs.map λ(i:Nat)=>AV.int .i64 (i:Int))=_
  rw[ih];rfl
def S0{t:TypeId}{u:Value}{X:Obj}{cs:List AV}{vs:List AV}{us:List Value}(hc:ET F G vs H us w)(hrun:(Instr.range t u).run P w = .ok (.pointer (some ⟨w.heap.size,0,none⟩)) (w.alloc X))
  (hX:∀C E f,X ≠ .cells C E f)(his:cO (G.newK w.heap.size .iter) (w.alloc X) cs w.heap.size)(hr:R (.it H.length) (H++[some cs])):
  Fy P ((do let v<-Instr.range t u;pure (Next.value v):Sem Next).run P w) (Fi F G w R):=by
 refine .value (by rw[AK,hrun];rfl) ⟨_,_,G.newK w.heap.size .iter,hr, ?_,NM hc.h.fore _ _⟩
 have hkn:(G.newK w.heap.size .iter).kind w.heap.size = .iter:=G.kind_set _ _
 have hlen:=hc.h.len
 refine hc.newG .iter X cs ⟨λhF=>absurd (hc.h.fore _ hF) (Bs _),by rw[hkn];exact his⟩ (.cons (.it _ _ ?_ (by rw[size_alloc];omega) hkn) (Fj (GP rfl _) F _ _) (.nil F _ _)) (λb=>?_)
 ·show(G.obs++[w.heap.size])[H.length]? =_
  rw[AN FR,hlen,AP];rfl
 ·rw[Fc,GS,GP rfl]
  have:WW cs X=[]:=by cases X<;>first|rfl|exact absurd rfl (hX _ _ _)
  rw[this];simp
def AAt{t:TypeId}{x:AV}{u:Value}(hc:ET F G [x] H [u] w)(hr:RA P t H x R):
  Fy P ((do let v<-Instr.range t u;pure (Next.value v):Sem Next).run P w) (Fi F G w R):=by
 have hx:=hc.l.rel 0 _ _ rfl rfl
 unfold RA at hr
 split at hr
 ·rename_i s hu
  cases hx
  exact S0 hc (by simp[Instr.range,run_underlying hu,Bd]) (λ_ _ _ e=>by cases e) (.inl ⟨s,0,heap_alloc_new _ _,rfl⟩) hr
 ·rename_i hu
  cases hx
  exact S0 hc (by simp[Instr.range,run_underlying hu,Bd]) (λ_ _ _ e=>by cases e) (.inr (.inl ⟨heap_alloc_new _ _,rfl⟩)) hr
 ·rename_i kt et o' hu
  split at hr
  ·rename_i es he
   rcases Sq hc hx he with⟨h,_⟩|⟨o,b,ms,cl,ho,rfl,hob,hkb,hms,hl,hH,hrel⟩
   ·cases h
   cases ho
   obtain⟨hcl,hborn⟩:=L4 hc hH hob hkb hms
   have hext:=NM (F:=F) (G:=G) hc.h.fore (.mapIter (some b) cl #[] cl) .iter
   refine S0 (X:=.mapIter (some b) cl #[] cl) hc (by simp[Instr.range,run_underlying hu,Bd,MapKept.run_getObj_map hms]) (λ_ _ _ e=>by cases e) (.inr (.inr ⟨o',b,cl,[],heap_alloc_new _ _, ?_,hx.keep hext.keeps⟩)) hr
   rw[hcl,<- hl]
  ·exact hr.elim
 ·exact hr.elim
def Ui{o:Nat}{u:Value}{cs:List AV}{vs:List AV}{us:List Value}(hc:ET F G vs H us w)(hx:EV G w (.it o) u)(ho:H[o]? =some (some cs)): ∃b,u = .pointer (some ⟨b,0,none⟩)/\G.obs[o]? =some b/\G.kind b = .iter/\cO G w cs b:=by
 cases hx with
 |it _ b h hb hk =>
  have hi:=(hc.h.obj o cs b ho h).is
  rw[hk]at hi
  exact⟨b,rfl,h,hk,hi⟩
def UZ{vs:List AV}{us:Array Value}(hc:∃a ua,ET F G a H ua w)(hl:vs.length=us.size)(hv:∀(i:Nat) (c:AV) (u:Value),vs[i]? =some c->us[i]? =some u->c.isVal=true/\c.borrow=c/\EV G w c u):
  EV G w (.tup vs) (.tuple us)/\Gs (.tup vs) (.tuple us)=[]:=by
 have hget:∀c∈vs,c.isVal=true/\c.borrow=c:=λc hc'=>by
  obtain⟨i,hi⟩:=Ae hc'
  have hlt:=(AC.1 hi).1
  obtain⟨h1,h2,_⟩:=hv i c _ hi (Ai FR)
  exact⟨h1,h2⟩
 refine⟨.tup _ _ hl (λc hc'=>(hget c hc').1) λi c x h1 h2=>(hv i c x h1 h2).2.2,GP ?_ _⟩
 show((vs.flatMap AV.cells).any GB)=false
 rw[Bh]
 intro c hc' h
 obtain⟨v,hv',hcv⟩:=Bo.1 hc'
 obtain⟨h1,h2⟩:=hget v hv'
 have hb:v.borrow.cells=v.cells.map borrow1:=by cases v<;>first|rfl|cases h1
 rw[<- h2,hb]at hcv
 obtain⟨d,_,rfl⟩:=AO.1 hcv
 cases d<;>cases h
def I0{v:AV}(h:v.isVal=true):v.borrow.borrow=v.borrow/\v.borrow.isVal=true:=by
 refine⟨?_,by cases v<;>first|rfl|cases h⟩
 cases v with
 |agg cs =>
  show AV.agg ((cs.map borrow1).map borrow1)=AV.agg (cs.map borrow1)
  rw[By]
  congr 1
  apply List.map_congr_left
  intro c _
  cases c<;>rfl
 |tup _=>cases h
 |_=>rfl
def AE6{o':Nat}{u:Value}{str:Bool}{ty:TypeId}(hc:ET F G [.it o'] H [u] w)(hr:Wf str H o' R):
  Fy P ((do let v<-Instr.next u str ty;pure (Next.value v):Sem Next).run P w) (Fi F G w R):=by
 have hx:=hc.l.rel 0 _ _ rfl rfl
 unfold Wf at hr
 have over:(∃a ua,ET F G a H ua w)->EV G w (.tup [.bool false]) (.tuple #[.bool false])/\Gs (.tup [.bool false]) (.tuple #[.bool false])=[]:=λh=>UZ h rfl λi c x h1 h2=>by
  match i with
  | 0=>simp at h1 h2;subst h1;subst h2;exact⟨rfl,rfl,.bool false⟩
  |i+1=>simp at h1
 split at hr
 · -- over a string
  rename_i s pos ho
  obtain⟨b,rfl,hob,hkb,hi⟩:=Ui hc hx ho
  rcases hi with⟨s',p',h1,h2⟩|⟨_,h2⟩|⟨_,_,_,_,_,h2,_⟩
  ·cases h2
   rw[Ag]at hr
   by_cases hp:p'<s.size
   ·rw[iP hp]at hr
    have hrun:(do let v<-Instr.next (.pointer (some ⟨b,0,none⟩)) true ty;pure (Next.value v):Sem Next).run P w = .ok (.value (.tuple #[.bool true,goInt p',.int .i32 (Utf8.decode s p').1])) (w.putObj b (.stringIter s (p'+(Utf8.decode s p').2))):=by
     simp[Instr.next,getObj,setObj,Db,h1,Bd,hp,World.putObj]
    have hor:=hc.h.obj o' _ b ho hob
    have he2:Ext F G w G (w.putObj b (.stringIter s (p'+(Utf8.decode s p').2))):=Ki hor.own h1 (λ_ _ _ e=>by cases e)
    obtain⟨g1,g2⟩:=UZ (G:=G) (w:=w) (F:=F) (H:=H) (vs:=[.bool true,.int .i64 p',.int .i32 (Utf8.decode s p').1]) (us:=#[.bool true,goInt p',.int .i32 (Utf8.decode s p').1]) ⟨_,_,hc⟩ rfl λi c x k1 k2=>by
     match i with
     | 0=>simp at k1 k2;subst k1;subst k2;exact⟨rfl,rfl,.bool true⟩
     | 1=>simp at k1 k2;subst k1;subst k2;exact⟨rfl,rfl,.int _ _⟩
     | 2=>simp at k1 k2;subst k1;subst k2;exact⟨rfl,rfl,.int _ _⟩
     |i+3=>simp at k1
    obtain⟨h3,h4⟩:=hc.setSp (X:=.stringIter s (p'+(Utf8.decode s p').2)) ho hob (by rw[hkb];rfl) (λ_ _ _ e=>by cases e) (cs':=Vz s ((p'+(Utf8.decode s p').2:Nat):Int)) ⟨hor.own,by
     rw[hkb];exact .inl ⟨s,_,World.putObj_heap_same hor.lt,rfl⟩⟩ (.cons g1 (Fj g2 F G w) (.nil F G w)) (λx=>by rw[Fc,GS,g2];simp)
    rw[hrun]
    exact⟨_,_,G,hr,h3,h4⟩
   ·rw[iN hp]at hr
    have hrun:(do let v<-Instr.next (.pointer (some ⟨b,0,none⟩)) true ty;pure (Next.value v):Sem Next).run P w = .ok (.value (.tuple #[.bool false])) w:=by
     simp[Instr.next,getObj,Db,h1,Bd,hp]
    rw[hrun]
    exact Fi.plain hc hr (over ⟨_,_,hc⟩).1 (over ⟨_,_,hc⟩).2
  ·cases h2
  ·cases h2
 · -- over no map
  rename_i ho
  obtain⟨b,rfl,hob,hkb,hi⟩:=Ui hc hx ho
  rcases hi with⟨s',p',h1,h2⟩|⟨h1,h2⟩|⟨_,_,_,_,_,h2,_⟩
  ·cases h2
  ·have hrun:(do let v<-Instr.next (.pointer (some ⟨b,0,none⟩)) false ty;pure (Next.value v):Sem Next).run P w = .ok (.value (.tuple #[.bool false])) w:=by
    simp[Instr.next,getObj,Db,h1,Bd]
   rw[hrun]
   exact Fi.plain hc hr (over ⟨_,_,hc⟩).1 (over ⟨_,_,hc⟩).2
  ·cases h2
 · -- over a map
  rename_i m since seen ho
  obtain⟨b,rfl,hob,hkb,hi⟩:=Ui hc hx ho
  rcases hi with⟨s',p',h1,h2⟩|⟨h1,h2⟩|⟨om,mb,si,se,h1,h2,h3⟩
  ·cases h2
  ·cases h2
  ·simp only[Ti,List.cons.injEq,AV.mapr.injEq,AV.int.injEq,AV.tup.injEq,and_true,true_and]at h2
   obtain⟨rfl,rfl,rfl⟩:=h2
   split at hr
   ·rename_i es he
    obtain⟨hs,hend,hstep⟩:=hr
    rw[lg]at hend hstep
    rcases Sq hc h3 he with⟨h,_⟩|⟨o,b2,ms,cl,ho2,hb2,hob2,hkb2,hms,hl,hH,hrel⟩
    ·cases h
    cases ho2;cases hb2
    obtain⟨hcl,hborn⟩:=L4 hc hH hob2 hkb2 hms
    have hsi:si=es.length:=FR
    have hin:∀e∈(leftOf ms se.toArray).toList,∃i:Nat,ms[i]? =some e/\e.born=i/\i∉se:=λe he'=>by
     unfold leftOf at he'
     rw[EA,CK]at he'
     obtain⟨i,hi⟩:=Ae he'.1
     rw[Ac]at hi
     refine⟨i,hi,hborn i e hi,λhse=>?_⟩
     have:=he'.2
     rw[hborn i e hi]at this
     simp[hse]at this
    rcases run_next_at (P:=P) w ty b mb si si se.toArray ms cl h1 hms (λx hx'=>by
      obtain⟨i,hi⟩:=Ae hx'
      rw[Ac]at hi
      rw[hborn i x hi]
      have:=(An.1 hi).1
      omega) (AT _)with⟨g1,g2⟩|⟨e,g1,w1,g2,g3⟩
    ·rw[AK,g2]
     refine Fi.plain hc (hend λi hi=>?_) (over ⟨_,_,hc⟩).1 (over ⟨_,_,hc⟩).2
     cases hd:decide (i∈se)with
     |true=>exact AO.2 ⟨i,of_decide_eq_true hd,rfl⟩
     | false =>
      exfalso
      have hlt:i<ms.size:=FR
      have hm:ms[i]∈(leftOf ms se.toArray).toList:=by
       unfold leftOf
       rw[EA,CK]
       refine⟨sm, ?_⟩
       rw[hborn i ms[i] (Ai hlt)]
       simpa using hd
      have:(leftOf ms se.toArray).toList.length=0:=by simpa using g1
      rw[List.length_eq_zero_iff.1 this]at hm
      cases hm
    ·obtain⟨i,hi,hbi,hns⟩:=hin e g1
     have hlt:=(An.1 hi).1
     obtain⟨p,hp⟩:∃p,es[i]? =some p:=⟨_,AH FR⟩
     obtain⟨r1,r2,r3,r4⟩:=hrel i p e hp hi
     have hstep:=hstep i p hp (λhm=>by
      obtain⟨j,hj,hj2⟩:=AO.1 hm
      have:j=i:=FR
      subst this
      exact hns hj)
     rw[AK,g3]
     have fin:∀w1:World,ET F G [.it o'] H [.pointer (some ⟨b,0,none⟩)] w1->Ext F G w G w1->w1.heap=w.heap ->
       Fi F G w R (.tuple #[.bool true,e.key,e.val]) (ChangeMaps.setBlock w1 b (.mapIter (some mb) si (se.toArray.push e.born) cl)):=by
      intro w1 hc1 hext1 hh1
      have hor:=hc1.h.obj o' _ b ho hob
      have hb1:w1.heap[b]? =some (.mapIter (some mb) si se.toArray si):=by rw[hh1];exact h1
      have he2:Ext F G w1 G (w1.putObj b (.mapIter (some mb) si (se.toArray.push e.born) cl)):=Ki hor.own hb1 (λ_ _ _ e=>by cases e)
      obtain⟨k1,k2⟩:=UZ (G:=G) (w:=w1) (F:=F) (H:=H) (vs:=[.bool true,p.1.borrow,p.2.borrow]) (us:=#[.bool true,e.key,e.val]) ⟨_,_,hc1⟩ rfl λj c x m1 m2=>by
       match j with
       | 0=>simp at m1 m2;subst m1;subst m2;exact⟨rfl,rfl,.bool true⟩
       | 1=>simp at m1 m2;subst m1;subst m2;exact⟨(I0 r1).2,(I0 r1).1,(r3.keep hext1.keeps).borrow⟩
       | 2=>simp at m1 m2;subst m1;subst m2;exact⟨(I0 r2).2,(I0 r2).1,(r4.keep hext1.keeps).borrow⟩
       |j+3=>simp at m1
      obtain⟨h5,h6⟩:=hc1.setSp (X:=.mapIter (some mb) si (se.toArray.push e.born) cl) ho hob (by rw[hkb];rfl) (λ_ _ _ e=>by cases e) (cs':=[.mapr m,.int .i64 (si:Int),.tup ((se.map λ(i:Nat)=>AV.int .i64 (i:Int))++[.int .i64 (i:Int)])]) ⟨hor.own,by
       rw[hkb]
       refine .inr (.inr ⟨m,mb,si,se++[i], ?_,by simp[Ti],((h3.keep hext1.keeps).keep he2.keeps)⟩)
       have e1:cl=si:=FR
       have e2:se.toArray.push e.born=(se++[i]).toArray:=by rw[hbi];simp
       rw[World.putObj_heap_same hor.lt,e1,e2]⟩ (.cons k1 (Fj k2 F G w1) (.nil F G w1)) (λx=>by rw[Fc,GS,k2];simp)
      exact⟨_,_,G,hstep,h5,hext1.trans h6⟩
     rcases g2 with rfl|rfl
     ·exact fin _ hc (Ext.refl F G _) rfl
     ·exact fin _ hc.draw H9 rfl
   ·exact hr.elim
 ·exact hr.elim
def AAv{o':Nat}{u:Value}(hc:ET F G [.it o'] H [u] w)(hr:TC H o' R):
  Fy P ((do let v<-Instr.entry u;pure (Next.value v):Sem Next).run P w) (Fi F G w R):=by
 have hx:=hc.l.rel 0 _ _ rfl rfl
 unfold TC at hr
 split at hr
 ·rename_i m since seen ho
  obtain⟨b,rfl,hob,hkb,hi⟩:=Ui hc hx ho
  rcases hi with⟨s',p',h1,h2⟩|⟨h1,h2⟩|⟨om,mb,si,se,h1,h2,h3⟩
  ·cases h2
  ·cases h2
  ·simp only[Ti,List.cons.injEq,AV.mapr.injEq,AV.int.injEq,AV.tup.injEq,and_true,true_and]at h2
   obtain⟨rfl,rfl,rfl⟩:=h2
   split at hr
   ·rename_i es i he hlast
    obtain⟨hs,p,hp,hR⟩:=hr
    rcases Sq hc h3 he with⟨h,_⟩|⟨o,b2,ms,cl,ho2,hb2,hob2,hkb2,hms,hl,hH,hrel⟩
    ·cases h
    cases ho2;cases hb2
    obtain⟨hcl,hborn⟩:=L4 hc hH hob2 hkb2 hms
    have hlast2:∃j:Nat,se.getLast? =some j/\i=(j:Int):=by
     rw[List.getLast?_map]at hlast
     cases hj:se.getLast? with
     |none=>rw[hj]at hlast;cases hlast
     |some j=>rw[hj]at hlast;simp at hlast;exact⟨j,rfl,hlast.symm⟩
    obtain⟨j,hj,rfl⟩:=hlast2
    rw[Ag]at hp
    have hlt:=(AC.1 hp).1
    have hmj:ms[j]? =some (ms[j]' FR):=Ai _
    obtain⟨se',rfl⟩:∃se',se=se'++[j]:=⟨se.dropLast,by
     cases hse:se with
     |nil=>rw[hse]at hj;cases hj
     |cons x xs =>
      rw[hse]at hj
      rw[List.getLast?_eq_some_getLast sm]at hj
      cases hj
      exact(List.dropLast_concat_getLast sm).symm⟩
    have e2:((se'++[j]).toArray:Array Nat)=se'.toArray.push (ms[j]' FR).born:=by rw[hborn j _ hmj];simp
    have e1:cl=si:=FR
    have hrun:=run_entry_at (P:=P) w b mb si se'.toArray ms cl (ms[j]' FR) (by rw[<- e2,e1];exact h1) hms sm (by
     have:ms.toList.map (·.born)=Ak ms.size:=by
      refine A3 λk=>?_
      rw[Aa,Ac]
      by_cases hk:k<ms.size
      ·rw[Ai hk,CS hk]
       simp[hborn k _ (Ai hk)]
      ·rw[Array.getElem?_eq_none FR,Av Hy];rfl
     rw[this];exact List.nodup_range)
    rw[AK,hrun]
    obtain⟨r1,r2,r3,r4⟩:=hrel j p _ hp hmj
    obtain⟨k1,k2⟩:=UZ (G:=G) (w:=w) (F:=F) (H:=H) (vs:=[p.1.borrow,p.2.borrow]) (us:=#[(ms[j]' FR).key,(ms[j]' FR).val]) ⟨_,_,hc⟩ rfl λk c x m1 m2=>by
     match k with
     | 0=>simp at m1 m2;subst m1;subst m2;exact⟨(I0 r1).2,(I0 r1).1,r3.borrow⟩
     | 1=>simp at m1 m2;subst m1;subst m2;exact⟨(I0 r2).2,(I0 r2).1,r4.borrow⟩
     |k+2=>simp at m1
    exact Fi.plain hc hR k1 k2
   ·exact hr.elim
 ·exact hr.elim
end
end Go.AI
namespace Go.AI
section
variable{P:Program}{F:Nat->Prop}{G:Gh}{w:World}{H:cj}{R:AV->cj->Prop}
def fI{t e ty ob off len sz c:Nat}{u:Value}{ts:Array TypeId}(hc:ET F G [.mslc ob off len sz c] H [u] w)(ht:ts[0]? =some t)(hu:P.underlying t=some (.slice e))(hr:R (.int .i64 len) H):
  Fy P ((do let r<-Builtin.len_ ts ty #[u];pure (Next.value r):Sem Next).run P w) (Fi F G w R):=by
 have hx:=hc.l.rel 0 _ _ rfl rfl
 cases hx
 exact .value (by simp[Builtin.len_,ht,run_underlying hu,goInt]) (Fi.plain hc hr (.int _ _) (FX rfl rfl _))
def fJ{t e ty ob off len sz c:Nat}{u:Value}{ts:Array TypeId}(hc:ET F G [.mslc ob off len sz c] H [u] w)(ht:ts[0]? =some t)(hu:P.underlying t=some (.slice e))(hr:R (.int .i64 c) H):
  Fy P ((do let r<-Builtin.cap_ ts ty #[u];pure (Next.value r):Sem Next).run P w) (Fi F G w R):=by
 have hx:=hc.l.rel 0 _ _ rfl rfl
 cases hx
 exact .value (by simp[Builtin.cap_,ht,run_underlying hu,goInt]) (Fi.plain hc hr (.int _ _) (FX rfl rfl _))
def XO {t e ob off len sz c:Nat} {u:Value} {rest:List AV} {urest:List Value} {lo hi mx:Option Value} {l h:Option Int} (hc:ET F G (.mslc ob off len sz c::rest) H (u::urest) w) (hu:P.underlying t=some (.slice e))
  (hl:EU lo l) (hh:EU hi h) (hm:EU mx none)
  (h0:0<=l.getD 0) (h1:l.getD 0<=h.getD len) (h2:h.getD len<=c) (hs:sz=P.cellsOf e) (hz:∃i,P.info? e=some i)
  (hr:R (if l.getD 0=c/\0<l.getD 0 then .sl none []else .mslc ob (off+(l.getD 0).toNat*sz) ((h.getD len).toNat - (l.getD 0).toNat) sz (c - (l.getD 0).toNat)) H) :
  Fy P ((do let r<-Instr.sliceAt t u lo hi mx;pure (Next.value r):Sem Next).run P w) (Fi F G w R):=by
 have hrel:=hc.l.rel 0 _ _ rfl rfl
 obtain⟨i,hi'⟩:=hz
 have hsize:∀w,(sizeOf e).run P w = .ok (P.cellsOf e) w:=λw=>by simp[sizeOf,typeInfo,hi',BJ]
 cases hrel with
 | mslc _ _ _ _ _ b hob hlc hmx hrow =>
  obtain⟨C,E,hrow,hfit⟩:=hrow
  have hb:=HF (P:=P) (isSlice:=true) (len:=len) (cap:=c) hl hh hm (λh=>by cases h) h0 h1 (by simp only[BH];omega) sm w
  by_cases hb0:l.getD 0=c/\0<l.getD 0
  ·rw[iP hb0]at hr
   have hcl:c=(l.getD 0).toNat:=FR
   have hrun:(Instr.sliceAt t (.slice (some ⟨b,off,none⟩) len c) lo hi mx).run P w = .ok (.slice (some ⟨b,off,none⟩) 0 0) w:=by
    simp only[Instr.sliceAt,Instr.slice,AK,run_underlying hu,AZ,hb,hsize,BH,Ag]
    have e1:(h.getD len).toNat - (l.getD 0).toNat=0:=FR
    have e2:c - (l.getD 0).toNat=0:=FR
    rw[iP hcl,e1,e2];simp
   exact .value (by rw[AK,hrun];rfl) (Fi.plain hc hr (.slany none _) (by simp[Gs,LG,AV.flat,AV.cells,ID,Value.cells,tok]))
  rw[iN hb0]at hr
  have h3:l.getD 0=0\/l.getD 0<c:=FR
  have hrun:(Instr.sliceAt t (.slice (some ⟨b,off,none⟩) len c) lo hi mx).run P w = .ok (.slice (some ⟨b,off+(l.getD 0).toNat*sz,none⟩) ((h.getD len).toNat - (l.getD 0).toNat) (c - (l.getD 0).toNat)) w:=by
   simp only[Instr.sliceAt,Instr.slice,AK,run_underlying hu,AZ,hb,hsize,BH,Ag]
   subst hs
   by_cases hcl:c=(l.getD 0).toNat
   ·have e0:(l.getD 0).toNat=0:=FR
    rw[iP hcl,e0];simp
   ·rw[iN hcl]
    simp[G7]
  have hmul:c*sz=(l.getD 0).toNat*sz+(c - (l.getD 0).toNat)*sz:=by
   rw[<- Az];congr 1;omega
  exact .value (by rw[AK,hrun];rfl) (Fi.plain hc hr (.mslc _ _ _ _ _ b hob FR FR  ⟨C,E,hrow,FR⟩) (FX rfl rfl _))
def il{e:TypeId}{vals:List AV}{us:List Value}{ob off k b len cap:Nat}{cs:List AV}(hc:ET F G vals H us w)(ho:H[ob]? =some (some cs))(hb:G.obs[ob]? =some b)(hbc:∃(C:Array Value) (E:TypeId),w.heap[b]? =some (.cells C E (0,0)))
  (hle:off+k*P.cellsOf e<=cs.length):∃news:List Value,(Builtin.firstCells (P.cellsOf e) k (.slice (some ⟨b,off,none⟩) len cap)).run P w = .ok news.toArray w/\news.length=k*P.cellsOf e/\(∀v∈news,v.oneCell'=true) /\
   ∀(i:Nat) (c:AV),((cs.drop off).take (k*P.cellsOf e))[i]? =some c->c.scalar=true /\ ∃v,news[i]? =some v/\EV G w c v:=by
 obtain⟨C,E,hrow,hCs,hC⟩:=hc.h.at_obj ho hb hbc
 refine⟨(C.toList.drop off).take (k*P.cellsOf e),run_firstCells_some (P:=P) w (P.cellsOf e) k _ _ _ _ Hy (λj v hv=>?_),Hy,λv hv=>?_,λi c hi=>?_⟩
 ·rw[Aj]at hv
  split at hv
  ·rw[A2,Ac]at hv
   rw[G7,cell_of_row _ _ _ C E _ hrow];exact hv
  ·cases hv
 ·obtain⟨j,hj⟩:=Ae hv
  rw[Aj]at hj
  split at hj
  ·rename_i hlt
   rw[A2]at hj
   have hd:cs[off+j]? =some (cs[off+j]' FR):=AH _
   obtain⟨g1,g2,_⟩:=hC.at_ (off+j) _ v hd (by rw[Aj,iP FR];exact hj)
   exact No g1 g2
  ·cases hj
 ·rw[Aj]at hi
  split at hi
  ·rename_i hlt
   rw[A2]at hi
   have hlt2:off+i<C.size:=FR
   have hv:C[off+i]? =some (C[off+i]):=Ai hlt2
   obtain⟨g1,g2,_⟩:=hC.at_ (off+i) c (C[off+i]) hi (by rw[Aj,iP FR,Ac];exact hv)
   exact⟨g1,_,by rw[Aj,iP hlt,A2,Ac];exact hv,g2⟩
  ·cases hi
def AFj{e:TypeId}{a b:AV}{u v:Value}{X:List AV}{k n:Nat}(hc:ET F G [a,b] H [u,v] w)(hs:ip P e H k b=some X)(hn:zl b=some n):
  (Builtin.lenOf v).run P w = .ok n w /\ ∃news:List Value,(Builtin.firstCells (P.cellsOf e) k v).run P w = .ok news.toArray w/\news.length=k*P.cellsOf e/\X.length=k*P.cellsOf e/\(∀v∈news,v.oneCell'=true) /\
   ∀(i:Nat) (c:AV),X[i]? =some c->c.scalar=true /\ ∃v,news[i]? =some v/\EV G w c v:=by
 have hx:=hc.l.rel 1 _ _ rfl rfl
 unfold ip at hs
 split at hs
 ·rename_i own xs
  split at hs
  ·rename_i hcond
   cases hs
   cases hn
   have hcl:=Gz hcond.1
   have hkl:k*P.cellsOf e<=xs.length*P.cellsOf e:=BE _ hcond.2
   rcases MN hcond.1 hx with⟨rfl,rfl⟩|⟨ad,c,news,rfl,hnl,hnews,hone,hcell⟩
   ·have hk0:k=0:=by simpa using hcond.2
    subst hk0
    refine⟨by simp[Builtin.lenOf],[],by simp[Builtin.firstCells],sm,sm,λv hv=>by simp at hv,λi c hi=>by simp at hi⟩
   ·refine⟨by simp[Builtin.lenOf],news.take (k*P.cellsOf e),run_firstCells_some (P:=P) w (P.cellsOf e) k _ _ _ _ Hy (λj v hv=>?_),Hy,Hy,λv hv=>hone v (List.mem_of_mem_take hv),λi c hi=>?_⟩
    ·rw[Aj]at hv
     split at hv
     ·exact hnews j v hv
     ·cases hv
    ·rw[Aj]at hi
     split at hi
     ·rename_i hlt
      obtain⟨s1,v,s2,s3⟩:=hcell i c hi
      exact⟨s1,v,by rw[Aj,iP hlt];exact s2,s3⟩
     ·cases hi
  ·cases hs
 ·rename_i ob off len sz
  split at hs
  ·rename_i cs ho
   split at hs
   ·rename_i hcond
    cases hs;cases hn
    obtain⟨hle,rfl,hkl⟩:=hcond
    cases hx with
    |msl _ _ _ _ b cap hb hl hm hrow =>
     obtain⟨C,E,hrow,_⟩:=hrow
     obtain⟨news,h1,h2,h3,h4⟩:=il (P:=P) (e:=e) (len:=n) (cap:=cap) hc ho hb ⟨C,E,hrow⟩ hle
     exact⟨by simp[Builtin.lenOf],news,h1,h2,Hy,h3,h4⟩
   ·cases hs
  ·cases hs
 ·rename_i ob off len sz c
  split at hs
  ·rename_i cs ho
   split at hs
   ·rename_i hcond
    cases hs;cases hn
    obtain⟨hle,rfl,hkl⟩:=hcond
    cases hx with
    |mslc _ _ _ _ _ b hb hl hm hrow =>
     obtain⟨C,E,hrow,_⟩:=hrow
     obtain⟨news,h1,h2,h3,h4⟩:=il (P:=P) (e:=e) (len:=n) (cap:=c) hc ho hb ⟨C,E,hrow⟩ hle
     exact⟨by simp[Builtin.lenOf],news,h1,h2,Hy,h3,h4⟩
   ·cases hs
  ·cases hs
 ·cases hs
def qf {t t2 e ty ob off len sz n:Nat} {dst sv:AV} {X cs:List AV} {u v:Value} {b cap:Nat} (hc:ET F G [dst,sv] H [u,v] w) (hu:P.underlying t=some (.slice e)) (hsz:sz=P.cellsOf e) (hz:(P.info? e).isSome=true)
  (hub:u = .slice (some ⟨b,off,none⟩) len cap) (hob:G.obs[ob]? =some b) (hrow0:∃(C:Array Value) (E:TypeId),w.heap[b]? =some (.cells C E (0,0))/\off+cap*sz<=C.size) (hlc:len<=cap)
  (ho:H[ob]? =some (some cs)) (hcb:cs.map borrow1=cs) (hoff:off<=cs.length) (hn:zl sv=some n) (hs:ip P e H (Nat.min n len) sv=some X)
  (hr:R (.int .i64 (Nat.min n len:Nat)) (H.set ob (some (cs.take off++X.map borrow1++cs.drop (off+Nat.min n len*sz))))) :
  Fy P ((do let r<-Builtin.copy_ #[t,t2] ty #[u,v];pure (Next.value r):Sem Next).run P w) (Fi F G w R):=by
 subst hsz hub
 obtain⟨hlen,news,hf,hnl,hXl,hone,hcell⟩:=AFj hc hs hn
 obtain⟨i,hi'⟩:=Bc.1 hz
 have hsize:∀w,(sizeOf e).run P w = .ok (P.cellsOf e) w:=λw=>by simp[sizeOf,typeInfo,hi',BJ]
 obtain⟨C0,E0,hrow0,hfit0⟩:=hrow0
 obtain⟨C,E,hrow,hCs,hC⟩:=hc.h.at_obj ho hob ⟨C0,E0,hrow0⟩
 have hfit:off+Nat.min n len*P.cellsOf e<=C.size:=by
  rw[hrow0]at hrow
  cases hrow
  have h1:Nat.min n len<=cap:=AL (Nat.min_le_right _ _) hlc
  have:=BE (P.cellsOf e) h1
  omega
 generalize hk:Nat.min n len=k at *
 have hst:=run_storeCells_at P b off E news 0 C w hrow FR hone
 simp only[BA]at hst
 let C':Array Value:=(C.toList.take off++news++C.toList.drop (off+news.length)).toArray
 have hC':C'=(C.toList.take off++news++C.toList.drop (off+news.length)).toArray:=rfl
 have hsize':C'.size=C.size:=by rw[hC'];simp;omega
 have hrun:(Builtin.copy_ #[t,t2] ty #[.slice (some ⟨b,off,none⟩) len cap,v]).run P w = .ok (goInt k) (w.setRow b C'):=by
  simp[Builtin.copy_,run_underlying hu,hlen,hk,hsize,hf,hst,hC']
 have hold:∀(i:Nat) (d:AV) (x:Value),cs[i]? =some d->C[i]? =some x->d.scalar=true/\EV G w d x/\d=borrow1 d:=by
  intro i d x hd hx'
  have hi':=(AC.1 hd).1
  obtain⟨g1,g2,_⟩:=hC.at_ i d x hd (by rw[Aj,iP hi',Ac];exact hx')
  refine⟨g1,g2, ?_⟩
  have:(cs.map borrow1)[i]? =some (borrow1 d):=by rw[Aa,hd];rfl
  rw[hcb,hd]at this
  exact Option.some.inj this
 have hcs':cs.take off++X.map borrow1++cs.drop (off+k*P.cellsOf e)=(cs.take off++X++cs.drop (off+k*P.cellsOf e)).map borrow1:=by
  rw[Aq,Aq,EB,Dc,hcb]
 have htl:(C.toList.take off).length=off:=Hy
 have hct:(cs.take off).length=off:=Hy
 have hset:=hc.setObj ho hob hrow (C':=C') hsize' (cs':=cs.take off++X.map borrow1++cs.drop (off+k*P.cellsOf e)) (by rw [hsize'];simp;omega)
  (λi d x hd hx'=>by
   rw[hC',Bb]at hx'
   by_cases hlt:i<off
   ·rw[AE,AX FR,Aj,iP hlt]at hd
    rw[AE,AX FR,Aj,iP hlt,Ac]at hx'
    obtain⟨g1,g2,g3⟩:=hold i d x hd hx'
    exact⟨g1,g2,GA (by rw[g3];exact Gd d _)⟩
   ·rw[AE,AN FR,hct]at hd
    rw[AE,AN FR,htl]at hx'
    by_cases hlt2:i - off<k*P.cellsOf e
    ·rw[AX (by simpa [hXl]using hlt2),Aa]at hd
     rw[AX FR]at hx'
     cases hci:X[i - off]? with
     |none=>rw[hci]at hd;cases hd
     |some c =>
      rw[hci]at hd
      cases hd
      obtain⟨s1,v,s2,s3⟩:=hcell _ c hci
      rw[s2]at hx'
      cases hx'
      exact⟨(GT c).trans s1,s3.borrow1,GA (Gd c _)⟩
    ·rw[AN (by simpa [hXl]using hlt2),A2,Ap,hXl]at hd
     rw[AN FR,A2,hnl,Ac]at hx'
     have e1:off+k*P.cellsOf e+(i - off - k*P.cellsOf e)=i:=FR
     rw[e1]at hd hx'
     obtain⟨g1,g2,g3⟩:=hold i d x hd hx'
     exact⟨g1,g2,GA (by rw[g3];exact Gd d _)⟩) (vs:=[.int .i64 (k:Int)]) (us':=[goInt k]) (.cons (.int _ _) (Fj (FX rfl rfl _) F G w) (.nil F G w)) (λx=>by
  rw[hcs',I4,Fc,GS,FX rfl rfl];simp)
 exact .value (by rw[AK,hrun];rfl) ⟨_,_,G,hr,hset.1,hset.2⟩
def T5 {t t2 e ty ob off len sz c m:Nat} {kq kn:IntKind} {cs:List AV} {z:AV} {u v:Value} (hc:ET F G [.mslc ob off len sz c,.int kq (m:Int)] H [u,v] w) (ho:H[ob]? =some (some cs)) (hu:P.underlying t=some (.slice e)) (hu2:P.underlying t2=some (.int kn))
  (hpos:0<P.cellsOf e) (hsz:sz=P.cellsOf e) (hle:off+len*sz<=cs.length) (hzv:Fk P e=some z) (hzl:z.cells.length=P.cellsOf e) (hz:GW P e=true) (hm0:0<m) (hroom:c<len+m) (hb:(len+m)*P.bytesOf e<=140737488355328) (yp:len+m<=9223372036854775807)
  (hr:R (.msl H.length 0 (len+m) (P.cellsOf e)) (H++[some (((cs.drop off).take (len*sz)).map borrow1++(Gb z m).map borrow1)])) :
  Fy P ((do let r<-Builtin.append_ #[t,t2] ty #[u,v];pure (Next.value r):Sem Next).run P w) (Fi F G w R):=by
 subst hsz
 have hs:=hc.l.rel 0 _ _ rfl rfl
 have hv:=hc.l.rel 1 _ _ rfl rfl
 cases hv
 unfold GW at hz
 split at hz
 case h_2=>cases hz
 rename_i i hi
 split at hz
 case h_2=>cases hz
 rename_i zv hz'
 have hcz:zv.cells.size=i.size:=by simpa using hz
 have hce:P.cellsOf e=i.size:=by simp[BJ,hi]
 have hbe:P.bytesOf e=i.bytes:=by simp[Cg,hi]
 rw[hbe]at hb
 have hlen:=hc.h.len
 obtain⟨zv2,hrunz,hval,hczz,htz⟩:=M1 hzv
 have hzz:zv=zv2:=by
  have:=hrunz w
  simpa [zeroValue,typeInfo,hi,hz']using this
 subst hzz
 have hz0:=hczz F G w
 cases hs with
 | mslc _ _ _ _ _ b hob hl hm hrow0 =>
  obtain⟨C0,E0,hrow0,hfit0⟩:=hrow0
  obtain⟨C,E,hrow,hCs,hC⟩:=hc.h.at_obj ho hob ⟨C0,E0,hrow0⟩
  let olds:List Value:=(C.toList.drop off).take (len*P.cellsOf e)
  have holds:olds=(C.toList.drop off).take (len*P.cellsOf e):=rfl
  have hol:olds.length=len*P.cellsOf e:=by rw[holds];simp;omega
  have hof:=run_firstCells_some (P:=P) w.drew i.size len ⟨b,off,none⟩ len c olds (by rw[hol,hce]) (λj v hv=>by
   show w.drew.cell? _=_
   rw[G7]
   have:w.cell? ⟨b,off+j,none⟩=some v:=by
    rw[cell_of_row _ _ _ C E _ hrow]
    rw[holds,Aj]at hv
    split at hv
    ·rwa [A2,Ac]at hv
    ·cases hv
   simpa using this)
  have hrun:=Go.Lib.run_append_grow_zeros (P:=P) w t t2 ty e i zv kq kn hu hu2 hi hz' (some ⟨b,off,none⟩) len c olds hof m hm0 FR hroom FR (AL (BE i.bytes (Nat.le_add_left m len)) FR) (growslice_fits FR hb)
  have hd:=hc.draw
  have hge:=grownCap_ge w (len+m) c e
  have hcm:grownCap w (len+m) c e<=maxLen:=grownCap_le_maxLen w _ c e (by unfold maxLen;omega)
  have hzs:∀k,(Builtin.zeroCells zv.cells k).size=k*P.cellsOf e:=λk=>by rw[size_zeroCells,hcz,hce]
  have hXl:(Gb z m).length=m*P.cellsOf e:=by simp[Gb,hzl]
  have hsize:(olds.toArray++Builtin.zeroCells zv.cells m++Builtin.zeroCells zv.cells (grownCap w (len+m) c e - (len+m))).size=grownCap w (len+m) c e*P.cellsOf e:=by
   simp only[Ch,BR,hzs,hol,<- Az]
   congr 1;omega
  have hgl:∀j,j<m*P.cellsOf e->(Gb z m)[j]? =z.cells[j % P.cellsOf e]?/\(olds.toArray++Builtin.zeroCells zv.cells m++Builtin.zeroCells zv.cells (grownCap w (len+m) c e - (len+m)))[len*P.cellsOf e+j]? =zv.cells.toList[j % P.cellsOf e]?:=by
   intro j hj
   have hmod:j % P.cellsOf e<P.cellsOf e:=C9 _ hpos
   constructor
   ·unfold Gb
    rw[Aa,CS (by rw[hzl];exact hj),hzl,BQ,AH FR];rfl
   ·rw[Da (by simp[hzs,hol];omega),Array.getElem?_append_right (by simp[hol])]
    have e0:len*P.cellsOf e+j - olds.toArray.size=j:=by simp[hol]
    rw[e0]
    have e1:(Builtin.zeroCells zv.cells m)[j]? =some (zv.cells[j % zv.cells.size]!):=by
     simp[Builtin.zeroCells,hcz,<- hce,hj]
    rw[e1,hcz,<- hce,Ac]
    have:j % P.cellsOf e<zv.cells.size:=FR
    rw[Ai this,getElem!_pos zv.cells _ this]
  have hrel:∀(i:Nat) (d:AV) (x:Value),(((cs.drop off).take (len*P.cellsOf e)).map borrow1++(Gb z m).map borrow1)[i]? =some d->(olds.toArray++Builtin.zeroCells zv.cells m++Builtin.zeroCells zv.cells (grownCap w (len+m) c e - (len+m)))[i]? =some x->d.scalar=true/\EV G w d x/\d=borrow1 d:=by
   intro i d x hd hx
   have hl1:(((cs.drop off).take (len*P.cellsOf e)).map borrow1).length=len*P.cellsOf e:=Hy
   by_cases hlt:i<len*P.cellsOf e
   ·rw[AX FR,Aa,Aj,iP hlt,A2]at hd
    rw[Array.append_assoc,Da (by simpa [hol]using hlt),Bb,holds,Aj,iP hlt,A2]at hx
    cases hci:cs[off+i]? with
    |none=>rw[hci]at hd;cases hd
    |some c0 =>
     rw[hci]at hd;cases hd
     have hlt3:=(AC.1 hci).1
     obtain⟨g1,g2,_⟩:=hC.at_ _ c0 x hci (by rw[Aj,iP hlt3];exact hx)
     exact⟨(GT c0).trans g1,g2.borrow1,(by cases c0<;>rfl)⟩
   ·obtain⟨j,rfl⟩:∃j,i=len*P.cellsOf e+j:=⟨i - len*P.cellsOf e,FR⟩
    rw[AN FR,hl1,Nat.add_sub_cancel_left]at hd
    rw[Aa]at hd
    have hj:j<m*P.cellsOf e:=by
     have:=(AC.1 ((Aa ..).trans hd)).1
     rw[Ap]at this;omega
    obtain⟨g1,g2⟩:=hgl j hj
    rw[g1]at hd
    rw[g2]at hx
    cases hz1:z.cells[j % P.cellsOf e]? with
    |none=>rw[hz1]at hd;cases hd
    |some d0 =>
     rw[hz1]at hd;cases hd
     obtain⟨s1,s2,_⟩:=hz0.at_ _ d0 x hz1 hx
     exact⟨(GT d0).trans s1,s2.borrow1,by cases d0<;>rfl⟩
  refine .value (by rw[AK,hrun];rfl) ⟨_,_,_,hr, ?_,H9.trans (IU hd.h.fore _)⟩
  exact hd.newObj (((cs.drop off).take (len*P.cellsOf e)).map borrow1++(Gb z m).map borrow1) (olds.toArray++Builtin.zeroCells zv.cells m++Builtin.zeroCells zv.cells (grownCap w (len+m) c e - (len+m))) e
   (by rw[hsize];simp[hXl];rw[Nat.min_eq_left FR,<- Az];exact BE _ hge)
   (λi d x h1 h2=>by
    obtain⟨g1,g2,g3⟩:=hrel i d x h1 h2
    exact⟨g1,g2.keep (H9 (F:=F)).keeps,GA (by rw[g3];exact Gd d _)⟩)
   (λx=>by
    have:((((cs.drop off).take (len*P.cellsOf e)).map borrow1++(Gb z m).map borrow1).zip (olds.toArray++Builtin.zeroCells zv.cells m++Builtin.zeroCells zv.cells (grownCap w (len+m) c e - (len+m))).toList).filterMap tok=[]:=by
     rw[B3]
     intro p hp
     obtain⟨i,hi⟩:=Ae hp
     rw[BZ]at hi
     obtain⟨g1,g2,g3⟩:=hrel i p.1 p.2 hi.1 (by rw[<- Ac];exact hi.2)
     obtain⟨p1,p2⟩:=p
     simp only at g3
     rw[g3];exact Gd p1 p2
    rw[this];simp)
   (v:=.msl H.length 0 (len+m) (P.cellsOf e)) (u:=.slice (some ⟨w.heap.size,0,none⟩) (len+m) (grownCap w (len+m) c e))
   (.msl _ _ _ _ w.heap.size _ (by
    show(G.obs++[w.drew.heap.size])[H.length]? =_
    rw[AN FR,hlen];simp) hge hcm ⟨_,e,heap_alloc_new _ _,by rw[hsize];omega⟩) (FX rfl rfl _)
def fF {tS tR e ob ob2 off off2 len len2 sz sz2 c2:Nat} {u v:Value} (hc:ET F G [.msl ob off len sz,.mslc ob2 off2 len2 sz2 c2] H [u,v] w) (hne:ob≠ob2) (hu:P.underlying tS=some (.slice e)) (hz:(P.info? e).isSome=true) (hl : ∃ cs,H[ob]? =some (some cs)) (hl2 : ∃ cs,H[ob2]? =some (some cs)) (hp:0<len2*sz2)
  : (Extern.SlicesOverlaps.overlaps #[tS,tS] #[tR] #[u,v]).run P w = .ok (.bool false) w:=by
 have hx:=hc.l.rel 0 _ _ rfl rfl
 have hy:=hc.l.rel 1 _ _ rfl rfl
 obtain⟨i,hi'⟩:=Bc.1 hz
 have hsize:∀w,(sizeOf e).run P w = .ok (P.cellsOf e) w:=λw=>by simp[sizeOf,typeInfo,hi',BJ]
 obtain⟨cs,hl⟩:=hl
 obtain⟨cs2,hl2⟩:=hl2
 cases hx with
 | msl _ _ _ _ b cap hb hlc hm hrow =>
  cases hy with
  | mslc _ _ _ _ _ b2 hb2 hlc2 hm2 hrow2 =>
   obtain⟨C,E,hrow,hfit⟩:=hrow
   obtain⟨C2,E2,hrow2,hfit2⟩:=hrow2
   have hbb:b≠b2:=by
    rintro rfl
    exact hne (hc.h.inj _ _ _ _ _ hl hl2 hb hb2)
   have hcs:0<C2.size:=by
    have:=BE sz2 hlc2
    omega
   refine Go.Lib.run_overlaps_apart w tS tR e hu _ hsize ⟨b,off,none⟩ ⟨b2,off2,none⟩ len cap len2 c2 hbb E E2 C.size C2.size ?_ ?_ FR ?_ ?_
   ·simp[World.shape?,hrow]
   ·simp[World.shape?,hrow2]
   ·simp[World.frozen?,hrow]
   ·simp[World.frozen?,hrow]
def AAz{t t2 ty:Nat}{a b:AV}{u v:Value}(hc:ET F G [a,b] H [u,v] w)(hr:To P t a b H R):
  Fy P ((do let r<-Builtin.copy_ #[t,t2] ty #[u,v];pure (Next.value r):Sem Next).run P w) (Fi F G w R):=by
 unfold To at hr
 split at hr
 ·rename_i e ob off len sz gr n hu hrow hn
  split at hr
  ·rename_i cs ho
   obtain⟨⟨h1,h2,h3,h4,h5⟩,hr⟩:=hr
   split at hr
   ·rename_i X hs
    have hx:=hc.l.rel 0 _ _ rfl rfl
    cases a<;>simp only[nq]at hrow<;>cases hrow
    ·cases hx with
     |msl _ _ _ _ b cap hb hl hm hrw=>exact qf hc hu h1 h2 rfl hb hrw hl ho h3 h4 hn hs hr
    ·cases hx with
     |mslc _ _ _ _ _ b hb hl hm hrw=>exact qf hc hu h1 h2 rfl hb hrw hl ho h3 h4 hn hs hr
   ·exact hr.elim
  ·exact hr.elim
 ·exact hr.elim
def AIO{t t2 ty:Nat}{mt:Bool}{a b:AV}{u v:Value}(hc:ET F G [a,b] H [u,v] w)(hr:apz P t t2 mt a b H R):
  Fy P ((do let r<-Builtin.append_ #[t,t2] ty #[u,v];pure (Next.value r):Sem Next).run P w) (Fi F G w R):=by
 unfold apz at hr
 split at hr
 ·rename_i e kn ob off len sz c k m hu hu2
  split at hr
  ·rename_i cs ho
   obtain⟨z,h1,⟨h3,h4,h5,h6,h7,h8,h9,wz,Xh⟩,hr⟩:=hr
   obtain⟨m,rfl⟩:∃j:Nat,m=(j:Int):=⟨m.toNat,FR⟩
   rw[Ag]at wz Xh hr
   exact T5 hc ho hu hu2 h5 h6 h7 h1 h3 h4 FR FR  wz Xh hr
  ·exact hr.elim
 ·exact hr.elim
end
end Go.AI
namespace Go.AI
section
variable{P:Program}{F:Nat->Prop}{G:Gh}{w:World}{H:cj}{R:AV->cj->Prop}
def Hb{first:List AV}{fi:List Value}(hl:first.length=fi.length)(h:∀(i:Nat) (c:AV) (v:Value),first[i]? =some c->fi[i]? =some v->EV G w c v):LRel F G (first.map AV.borrow) fi w /\ ∀b,HA b (first.map AV.borrow) fi=0:=by
 refine⟨⟨by simpa using hl,λi a u h1 h2=>?_,λi a u h1 h2=>?_⟩,λb=>?_⟩
 ·rw[Aa]at h1
  cases hc:first[i]? with
  |none=>rw[hc]at h1;cases h1
  |some c=>rw[hc]at h1;cases h1;exact(h i c u hc h2).borrow
 ·rw[Aa]at h1
  cases hc:first[i]? with
  |none=>rw[hc]at h1;cases h1
  |some c=>rw[hc]at h1;cases h1;exact Fj (Gc c u) F G w
 ·clear h
  induction first generalizing fi with
  |nil=>simp[HA]
  |cons c cs ih =>
   match fi,hl with
   |u::us,hl=>rw[AS,Fc,Gc,ih (by simpa using hl)];simp
def Uf {f:FuncId} {first captured args:List AV} {fv:Value} {uargs:Array Value} (hc:ET F G (.fn (.func f) first captured::args) H (fv::uargs.toList) w)
  (hcall:Fa P f (first.map AV.borrow++args++captured.map AV.borrow) H R) :
  Fy P ((do let d<-Deferred.ofValue fv uargs;invoke d.target d.args:Sem Next).run P w) (Fi F G w R):=by
 have hx:=hc.l.rel 0 _ _ rfl rfl
 obtain⟨_,_,hargs⟩:=hc.l.uncons
 cases hx with
 | fn _ _ _ fi ca h1 h2 h3 h4 =>
  obtain⟨hcallable,hcall⟩:=hcall
  obtain⟨l1,t1⟩:=Hb (F:=F) (G:=G) (w:=w) (first:=first) (fi:=fi.toList) (by simpa using h1) (λi c v a b=>h3 i c v a (by simpa using b))
  obtain⟨l2,t2⟩:=Hb (F:=F) (G:=G) (w:=w) (first:=captured) (fi:=ca.toList) (by simpa using h2) (λi c v a b=>h4 i c v a (by simpa using b))
  have hcr:ET F G (first.map AV.borrow++args++captured.map AV.borrow) H (fi.toList++uargs.toList++ca.toList) w:=by
   refine⟨(l1.append hargs).append l2,hc.h,λb=>?_⟩
   rw[GV _ _ _ _ _ (l1.append hargs).len,GV _ _ _ _ _ l1.len,t1,t2]
   have:=hc.cnt b
   rw[Fc]at this
   omega
  have hC:=hcall F G w _ hcr
  have e:(do let d<-Deferred.ofValue (.func (.func f) fi ca) uargs;invoke d.target d.args:Sem Next).run P w = .ok (.enter f (fi++uargs++ca)) w:=by
   unfold HS at hcallable
   split at hcallable
   ·rename_i fn hfn
    simp only[Bool.and_eq_true,BS,beq_eq_false_iff_ne,ne_eq]at hcallable
    obtain⟨g1,g2⟩:=hcallable
    have g3:fn.body.isNone=false:=by cases hb:fn.body<;>simp_all
    simp only[Deferred.ofValue,AK,Ad,AZ,invoke,callFunc,run_program,hfn,beq_eq_false_iff_ne.2 g1,g3,Bx,if_false]
   ·cases hcallable
  rw[e]
  have e2:(fi.toList++uargs.toList++ca.toList).toArray=fi++uargs++ca:=by
   apply Bj
   simp
  rw[e2]at hC
  refine hC.mono λen w'' hen=>?_
  obtain⟨u,rfl,v,H',G',hr,g1,g2⟩:=hen
  exact⟨u,rfl,v,H',G',hr,g1,g2⟩
def AAr {f:FuncId} {first captured args:List AV} {fv:Value} {uargs:Array Value} {v:AV} (hc:ET F G (.fn (.func f) first captured::args) H (fv::uargs.toList) w)
  (hcall:QP P f (first.map AV.borrow++args++captured.map AV.borrow) H v) (hr:R v H) :
  Fy P ((do let d<-Deferred.ofValue fv uargs;invoke d.target d.args:Sem Next).run P w) (Fi F G w R):=by
 have hx:=hc.l.rel 0 _ _ rfl rfl
 obtain⟨_,_,hargs⟩:=hc.l.uncons
 cases hx with
 | fn _ _ _ fi ca h1 h2 h3 h4 =>
  unfold QP at hcall
  split at hcall
  ·rename_i ob off len sz ob2 off2 len2 sz2 c2 heq
   obtain⟨hne,⟨fn,tS,tR,e,g1,g2,g3,g4,g5,g6,g7⟩,hl,hl2,hp,rfl⟩:=hcall
   have hcr:ET F G [.msl ob off len sz,.mslc ob2 off2 len2 sz2 c2] H (fi.toList++uargs.toList++ca.toList) w:=by
    rw[<- heq]
    obtain⟨l1,t1⟩:=Hb (F:=F) (G:=G) (w:=w) (first:=first) (fi:=fi.toList) (by simpa using h1) (λi c v a b=>h3 i c v a (by simpa using b))
    obtain⟨l2,t2⟩:=Hb (F:=F) (G:=G) (w:=w) (first:=captured) (fi:=ca.toList) (by simpa using h2) (λi c v a b=>h4 i c v a (by simpa using b))
    refine⟨(l1.append hargs).append l2,hc.h,λb=>?_⟩
    rw[GV _ _ _ _ _ (l1.append hargs).len,GV _ _ _ _ _ l1.len,t1,t2]
    have:=hc.cnt b
    rw[Fc]at this
    omega
   have e2:(fi.toList++uargs.toList++ca.toList).toArray=fi++uargs++ca:=by
    apply Bj
    simp
   generalize hus:fi.toList++uargs.toList++ca.toList=us at hcr e2
   match us,hcr,e2 with
   |[u,v],hcr,e2 =>
    have hov:=fF (tR:=tR) hcr hne g6 g7 hl hl2 hp
    have hrun:=run_callFunc_extern (P:=P) g1 g2 g3 g4 g5 #[u,v] w
    rw[hov]at hrun
    refine .value (u:=.bool false) (w':=w) ?_ (Fi.plain hc hr (.bool _) (FX rfl rfl _))
    simp only[Deferred.ofValue,AK,Ad,AZ,invoke,<- e2]
    exact hrun
   |[],hcr,_=>have:=hcr.l.len;simp at this
   |[_],hcr,_=>have:=hcr.l.len;simp at this
   |_::_::_::_,hcr,_=>have:=hcr.l.len;simp at this
  ·exact hcall.elim
def CRel.rest{v:AV}{L:List AV}{u:Value}{tm:List Value}(hc:ET F G (v::L) H (u::tm) w):ET F G L H tm w :=
 ⟨hc.l.uncons.2.2,hc.h,λb=>by have:=hc.cnt b;rw[Fc]at this;omega⟩
def AAq{o:Nat}{L:LoopRec}{args:List AV}{fv:Value}{uargs:Array Value}(hc:ET F G (.yld o L::args) H (fv::uargs.toList) w)(hcall:NR P o L args H R):
  Fy P ((do let d<-Deferred.ofValue fv uargs;invoke d.target d.args:Sem Next).run P w) (Fi F G w R):=by
 have hx:=hc.l.rel 0 _ _ rfl rfl
 cases hx with
 | yld _ b _ h hb hk =>
  obtain⟨r,h1,h2,h3⟩:=hcall F G w _ b hc.rest h hk
  have hs:uargs.size=r.params.size:=by simpa using h2
  have e:(do let d<-Deferred.ofValue (.func (.yield b) #[] #[]) uargs;invoke d.target d.args:Sem Next).run P w = .ok (.round b r.fn ((r.params.zip uargs).foldl (λtmps (t,a)=>tmps.setIfInBounds t a) r.tmps) r.assign r.body) w:=by
   simp only[Deferred.ofValue,AK,Ad,AZ,invoke,DZ]
   exact run_yield h1 hs
  rw[e]
  have e2:uargs.toList.toArray=uargs:=sm
  rw[e2]at h3
  exact h3
def AE4{lo hi mx:Option Operand}{ρ:Operand->Value}{rest:List AV}{l h m:Option Int}(hb:Pv lo.isSome hi.isSome mx.isSome rest=some (l,h,m))
  (hl:LRel F G rest ((lo.toArray++hi.toArray++mx.toArray).toList.map ρ) w):
  EU (lo.map ρ) l/\EU (hi.map ρ) h/\EU (mx.map ρ) m/\(m.isSome=true->h.isSome=true):=by
 have int:∀{k:IntKind} {i:Int} {u:Value},EV G w (.int k i) u->u = .int k i:=λh=>by cases h;rfl
 unfold Pv at hb
 split at hb<;>first|cases hb|skip
 all_goals
  rename_i e1 e2 e3
  cases lo<;>first|cases e1|skip
  all_goals cases hi<;>first|cases e2|skip
  all_goals cases mx<;>first|cases e3|skip
  all_goals simp only[Option.toArray,DA,Aq,AS,Ah,AR,List.singleton_append,Af]at hl
  all_goals simp only[Option.map_none,BQ]
 ·exact⟨.none,.none,.none,sm⟩
 ·have g1:=int (hl.rel 0 _ _ rfl rfl)
  rw[g1];exact⟨.some _ _,.none,.none,sm⟩
 ·have g1:=int (hl.rel 0 _ _ rfl rfl)
  rw[g1];exact⟨.none,.some _ _,.none,sm⟩
 ·have g1:=int (hl.rel 0 _ _ rfl rfl)
  have g2:=int (hl.rel 1 _ _ rfl rfl)
  rw[g1,g2];exact⟨.some _ _,.some _ _,.none,sm⟩
 ·have g1:=int (hl.rel 0 _ _ rfl rfl)
  have g2:=int (hl.rel 1 _ _ rfl rfl)
  rw[g1,g2];exact⟨.none,.some _ _,.some _ _,sm⟩
 ·have g1:=int (hl.rel 0 _ _ rfl rfl)
  have g2:=int (hl.rel 1 _ _ rfl rfl)
  have g3:=int (hl.rel 2 _ _ rfl rfl)
  rw[g1,g2,g3];exact⟨.some _ _,.some _ _,.some _ _,sm⟩
def bQ{us:Array Value}(h:us.toList.length=1): ∃u,us=#[u]:=by
 obtain⟨l⟩:=us
 match l,h with
 |[u],_=>exact⟨u,rfl⟩
def R5{us:Array Value}(h:us.toList.length=2): ∃u v,us=#[u,v]:=by
 obtain⟨l⟩:=us
 match l,h with
 |[u,v],_=>exact⟨u,v,rfl⟩
def nr{v:AV}{u:Value}(h:ET F G [v] H [u] w):ET F G [v.borrow] H [u] w:=by
 obtain⟨h1,h2,_⟩:=h.l.uncons
 refine⟨.cons h1.borrow (Fj (Gc _ _) F G w) (.nil F G w),h.h,λb=>?_⟩
 rw[Fc,GS,Gc]
 have:=h.cnt b
 simp only[Ba]
 omega
def mQ{r:Result Next}(h:Fy P r (Fi F G w λv H'=>R v.borrow H')):Fy P r (Fi F G w R):=by
 have key:∀u w',Fi F G w (λv H'=>R v.borrow H') u w'->Fi F G w R u w':=by
  rintro u w' ⟨v,H',G',hR,hc,he⟩
  exact⟨v.borrow,H',G',hR,nr hc,he⟩
 unfold Fy at h ⊢
 cases r with
 | ok nx w' =>
  cases nx<;>simp only at h ⊢
  ·exact key _ _ h
  ·exact key _ _ h
  ·refine Calls.mono h λe w'' he=>?_
   obtain⟨u,rfl,hk⟩:=he
   exact⟨u,rfl,key _ _ hk⟩
  ·refine RoundIn.mono h λe w'' he=>?_
   obtain⟨u,rfl,hk⟩:=he
   exact⟨u,rfl,key _ _ hk⟩
 |halt x w'=>exact h
def AGJ(h:EW)(o:Oper)(ρ:Operand->Value)(hρ : ∀ v,ρ (.const v)=v)(vals:List AV)(hc:ET F G vals H (o.op.operands.toList.map ρ) w)(hr:Fh P h o vals H R):
  Fy P ((execOp ρ o).run P w) (Fi F G w R):=by
 unfold Fh at hr
 split at hr<;>rename_i heq<;>simp only[heq,Op.operands]at hc<;>simp only[execOp,heq]
 ·exact .value rfl (Fi.same hc hr)
 ·exact .value rfl (Fi.same hc hr)
 ·exact AE5 hc hr
 ·exact AIN hc hr.1 hr.2
 ·split at hr
  ·exact aD hc hr.1 hr.2
  ·obtain⟨z,hz,hr⟩:=hr
   exact AAy hc hz hr
 · -- build
  rename_i t ps
  rw[show(EC (λx:Nat×Operand=>(x.1,ρ x.2)) ps)=(ps.toList.map λp=>(p.1,ρ p.2)).toArray by apply Bj;simp]
  rw[show((ps.toList.map (·.2)).toArray.toList.map ρ)=ps.toList.map λp=>ρ p.2 by simp]at hc
  split at hr
  ·rename_i fs hu
   obtain⟨z,cs,h1,h2,h3,h4⟩:=hr
   exact T4 hc hu h1 h2 h3 h4
  ·rename_i n e hu
   obtain⟨z,cs,h1,h2,h3,h4⟩:=hr
   exact VQ hc hu h1 h2 h3 h4
  ·exact hr.elim
 ·rename_i t len ps
  rw[show(EC (λx:Nat×Operand=>(x.1,ρ x.2)) ps)=(ps.toList.map λp=>(p.1,ρ p.2)).toArray by apply Bj;simp]
  rw[show((ps.toList.map (·.2)).toArray.toList.map ρ)=ps.toList.map λp=>ρ p.2 by simp]at hc
  split at hr
  ·rename_i e hu
   obtain⟨h1,h2,h3,h4,h5,h6⟩:=hr
   split at h6
   ·exact Ra hc hu h1 h2 h3 h4 h5 h6
   ·exact XR hc hu h1 h2 h3 h4 h5 h6
  ·exact hr.elim
 ·split at hr
  ·rename_i e hu
   obtain⟨h1,h2,h3,h4,h5,z,h6,h7,h8,h9⟩:=hr
   exact Z9 hc hu h1 h2 h3 h4 h5 h6 h7 h8 h9
  ·exact hr.elim
 · -- load from an object
  split at hr
  ·rename_i cs ho
   split at hr
   ·rename_i v hl
    split at hr
    ·exact Ok hc ho hl (.inr hr.2.2)
    ·exact Ok hc ho hl (.inl hr)
   ·exact hr.elim
  ·exact hr.elim
 ·split at hr
  ·rename_i v hl
   exact Z_ hc hl hr
  ·exact hr.elim
 ·split at hr
  ·rename_i cs ho
   obtain⟨h1,h2,h3,h4,h5⟩:=hr
   exact AAs hc ho h1 h2 h3 h4 h5
  ·exact hr.elim
 ·obtain⟨a,ha,hk⟩:=T1 hc hr
  rw[ha]at hk ⊢
  exact .value rfl hk
 ·obtain⟨a,ha,hk⟩:=Sl hc hr
  rw[ha]at hk ⊢
  exact .value rfl hk
 ·rename_i x f a b
  simp only[AS,Ah]at hc
  have hx:=hc.l.rel 0 _ _ rfl rfl
  generalize ρ x=fx at hx hc ⊢
  cases hx
  exact .value rfl (Fi.same hc hr)
 ·rename_i x o' L
  simp only[AS,Ah]at hc
  have hx:=hc.l.rel 0 _ _ rfl rfl
  generalize ρ x=fx at hx hc ⊢
  cases hx
  exact .value rfl (Fi.same hc hr)
 ·split at hr
  ·rename_i y _ _ _ hy
   refine s6 hc ?_ hr
   unfold Kw at hy
   split at hy
   ·exact hρ _
   ·cases hy
  ·exact AAx hc hr
 ·split at hr
  ·exact fD hc hr
  ·exact fC hc hr
  ·exact hr.elim
 ·split at hr
  ·exact VP hc ‹_› ‹_› hr
  ·exact VO hc ‹_› ‹_› hr
  ·exact Sn hc ‹_› ‹_› hr.1 hr.2.1 hr.2.2
  ·exact hr.elim
 ·rename_i fn first captured
  have:=fH (P:=P) (fn:=fn) (first:=first.toList) (captured:=captured.toList) (ρ:=ρ) (R:=R) (by simpa using hc) (by simpa using hr)
  rw[show(first.toList.map ρ).toArray=first.map ρ by apply Bj;simp,show(captured.toList.map ρ).toArray=captured.map ρ by apply Bj;simp]at this
  exact this
 ·rename_i t x lo hi mx a rest
  simp only[DA,Aq,AS,List.cons_append,AR]at hc
  split at hr
  ·rename_i l hh m hb
   obtain⟨hx,htx,hrest⟩:=hc.l.uncons
   obtain⟨o1,o2,o3,o4⟩:=AE4 (ρ:=ρ) hb (by simpa using hrest)
   split at hr
   ·unfold KF at hr
    split at hr
    ·rename_i n e o off hu
     obtain⟨⟨rfl,rfl,rfl⟩,g1,g2,hr⟩:=hr
     have nn:∀{x:Option Value},EU x none->x=none:=λ{x} h=>by
      cases x with
      |none=>rfl
      |some z=>cases h
     split at hr
     ·rename_i cs ho
      rw[nn o1,nn o2,nn o3]
      exact Z6 hc hu g2 ho hr.1 g1 hr.2
     ·exact hr.elim
    ·rename_i e own es hu
     obtain⟨⟨rfl,rfl,rfl⟩,g1,hr⟩:=hr
     have nn:∀{x:Option Value},EU x none->x=none:=λ{x} h=>by
      cases x with
      |none=>rfl
      |some z=>cases h
     rw[nn o1]
     exact XQ hc hu o2 o3 g1 hr
    ·exact hr.elim
   unfold N7 at hr
   split at hr
   ·rename_i s hu
    obtain⟨h1,h2,h3,h4,h5⟩:=hr
    subst h1
    have:mx.map ρ=none:=by cases o3':mx.map ρ with
     |none=>rfl
     |some z=>rw[o3']at o3;cases o3
    exact Z5 hc hu o1 o2 this h2 h3 h4 h5
   ·rename_i e own es hu
    obtain⟨h1,h2,h3,h4,hz,h5⟩:=hr
    refine fE hc hu o1 o2 o3 o4 h1 h2 h3 h4 ?_ ?_
    ·cases m with
     |none=>exact h5
     |some mm=>exact h5
    ·cases hi:P.info? e with
     |none=>rw[hi]at hz;cases hz
     |some i=>exact⟨i,rfl⟩
   ·rename_i e ob off len sz hu
    obtain⟨⟨h1,h2,h3,h4,hz,rfl,h5⟩,hr⟩:=hr
    refine Z7 hc hu o1 o2 o3 h1 h2 h3 h4 ?_ h5 hr
    cases hi:P.info? e with
    |none=>rw[hi]at hz;cases hz
    |some i=>exact⟨i,rfl⟩
   ·rename_i e ob off len sz c hu
    obtain⟨⟨h1,h2,h3,h4,hz,rfl⟩,hr⟩:=hr
    refine XO hc hu o1 o2 o3 h1 h2 h3 h4 ?_ hr
    cases hi:P.info? e with
    |none=>rw[hi]at hz;cases hz
    |some i=>exact⟨i,rfl⟩
   ·rename_i ta cs off hu
    obtain⟨rfl,rfl,rfl,hr⟩:=hr
    have nn:∀{x:Option Value},EU x none->x=none:=λ{x} h=>by
     cases x with
     |none=>rfl
     |some z=>cases h
    split at hr
    ·rename_i n e ha
     obtain⟨g1,g2,g3,g4⟩:=hr
     rw[nn o1,nn o2,nn o3]
     exact XP hc hu ha g1 g2 g3 g4
    ·exact hr.elim
   ·rename_i n e cs off hu
    obtain⟨⟨rfl,rfl,rfl⟩,g1,g2,g3,g4⟩:=hr
    have nn:∀{x:Option Value},EU x none->x=none:=λ{x} h=>by
     cases x with
     |none=>rfl
     |some z=>cases h
    rw[nn o1,nn o2,nn o3]
    exact VN hc hu g1 g2 g3 g4
   ·exact hr.elim
  ·exact hr.elim
 · -- fieldAddr
  split at hr
  ·rename_i fs hu
   split at hr
   ·rename_i fd hf
    exact aB hc hu hf hr.1 hr.2
   ·exact hr.elim
  ·exact hr.elim
 ·split at hr
  ·rename_i fs hu
   split at hr
   ·rename_i fd hf
    split at hr
    ·rename_i v hl
     exact AAu hc hu hf hl hr
    ·exact hr.elim
   ·exact hr.elim
  ·exact hr.elim
 ·obtain⟨v,hv,hr⟩:=hr
  exact mW hc hv hr
 · -- indexAddr
  split at hr
  ·rename_i e own es hu
   obtain⟨h0,v,h1,h2,h3,h4⟩:=hr
   exact T3 hc hu h0 h1 h2 h3 h4
  ·rename_i e ob off len sz hu
   obtain⟨h0,h1,h2,h3,h4⟩:=hr
   exact Sm hc hu h0 h1 h2 h3 h4
  ·rename_i n e ob off hu
   obtain⟨h0,h1,h2,h3⟩:=hr
   exact M_ hc hu h0 h1 h2 h3
  ·rename_i n e cs off hu
   obtain⟨h0,h1,h2,h3⟩:=hr
   exact M_ hc hu h0 h1 h2 h3
  ·exact hr.elim
 ·split at hr
  ·rename_i s hu
   obtain⟨h0,h1,h2⟩:=hr
   exact Z' hc hu h0 h1 h2
  ·rename_i n e cs hu
   obtain⟨h0,h1,h2,v,h3,h4⟩:=hr
   exact aA hc hu h0 h1 h2 h3 h4
  ·exact hr.elim
 ·simp only[Option.toArray_none,Ah]at hc
  exact mS hc hr
 ·obtain⟨hu,hr⟩:=hr
  split at hu
  ·rename_i kt et hu'
   simp only[Option.toArray_some,AS,Ah]at hc
   exact T2 hc hu' hr
  ·cases hu
 ·simp only[AS,Ah]at hc
  split at hr
  ·rename_i kt et hu
   split at hr
   ·rename_i es he
    obtain⟨g1,g2,z,g3,g4⟩:=hr
    exact s7 hc hu he g1 g2 g3 g4
   ·exact hr.elim
  ·exact hr.elim
 ·simp only[AS,Ah]at hc
  split at hr
  ·rename_i kt et hu
   split at hr
   ·rename_i es he
    obtain⟨g1,g2,g3,g4⟩:=hr
    exact Z8 hc hu he g1 g2 g3 g4
   ·exact hr.elim
  ·exact hr.elim
 ·simp only[AS,Ah]at hc
  exact AAt hc hr
 ·simp only[AS,Ah]at hc
  exact AE6 hc hr
 ·simp only[AS,Ah]at hc
  exact AAv hc hr
 · -- calls
  rename_i c
  obtain⟨callee,args,argTypes⟩:=c
  cases callee with
  |invoke r m=>exact hr.elim
  | value fo =>
   simp only at hr
   split at hr
   ·simp only[Call.operands]at hc
    split at hr
    ·split at hr
     ·obtain⟨v,hcall,hr⟩:=hr
      rcases hcall with hcall|hcall
      ·have:=Uf (P:=P) (fv:=ρ fo) (uargs:=args.map ρ) (R:=R) (by simpa using hc) ((hcall H rfl).mono λv' H' hq=>by obtain⟨rfl,rfl⟩:=hq;exact hr)
       simpa [resolve]using this
      ·have:=AAr (P:=P) (fv:=ρ fo) (uargs:=args.map ρ) (R:=R) (by simpa using hc) hcall hr
       simpa [resolve]using this
     ·obtain⟨v,hcall,hr⟩:=hr
      have:=Uf (P:=P) (fv:=ρ fo) (uargs:=args.map ρ) (R:=R) (by simpa using hc) ((hcall H).mono λv' H' hq=>by obtain⟨rfl,rfl⟩:=hq;exact hr)
      simpa [resolve]using this
    ·split at hr
     ·obtain⟨v,ext,hcall,hr⟩:=hr
      have:=Uf (P:=P) (fv:=ρ fo) (uargs:=args.map ρ) (R:=R) (by simpa using hc) (hcall.mono λv2 H2 hq=>by obtain⟨rfl,rfl⟩:=hq;exact hr)
      simpa [resolve]using this
     ·have hcall:=hr
      have:=Uf (P:=P) (fv:=ρ fo) (uargs:=args.map ρ) (R:=R) (by simpa using hc) hcall
      simpa [resolve]using this
   ·simp only[Call.operands]at hc
    have:=AAq (P:=P) (fv:=ρ fo) (uargs:=args.map ρ) (R:=R) (by simpa using hc) hr.2
    simpa [resolve]using this
   ·exact hr.elim
  | builtin b =>
   simp only[Call.operands]at hc
   have e0:∀(as:Array Operand),List.map ρ ((#[]:Array Operand)++as).toList=(as.map ρ).toList:=by intro as;simp
   cases b<;>simp only at hr<;>first|exact hr.elim|skip
   case append =>
    split at hr
    ·rename_i a b t t' hat
     by_cases htt:t=t'
     case neg =>
      rw[iN htt]at hr
      have hat':argTypes=#[t,t']:=by rw[<- Bl (xs:=argTypes),hat]
      subst hat'
      obtain⟨u,v,huv⟩:=R5 (us:=args.map ρ) (by have:=hc.l.len;simp at this;simp;omega)
      rw[e0,huv]at hc
      simp only[resolve,huv,AK,Ad,AZ,invoke,builtin]
      simpa only[AK,Ad]using AIO (ty:=o.type) hc hr
     subst htt
     rw[iP rfl]at hr
     split at hr
     ·rename_i e hu
      obtain⟨h1,h3,hr⟩:=hr
      have hat':argTypes=#[t,t]:=by rw[<- Bl (xs:=argTypes),hat]
      subst hat'
      obtain⟨u,v,huv⟩:=R5 (us:=args.map ρ) (by have:=hc.l.len;simp at this;simp;omega)
      rw[e0,huv]at hc
      simp only[resolve,huv,AK,Ad,AZ,invoke,builtin]
      split at hr
      ·rename_i xs hs
       obtain⟨h2,hr⟩:=hr
       have hsrc:=AH5 hc hs h2
       split at hr
       ·obtain⟨rfl,h4,h5,h6⟩:=hr
        cases hln:o.dst.any h.pc.contains
        ·rw[hln]at h6
         simpa only[AK,Ad]using Yq (ty:=o.type) hc hsrc hu h1 h2 h3 h4 h5 h6
        ·rw[hln]at h6
         have h7:=Yq (ty:=o.type) (R:=λv H'=>R v.borrow H') hc hsrc hu h1 h2 h3 h4 h5 h6
         have h8:=mQ h7
         simpa only[AK,Ad]using h8
       ·obtain⟨rfl,h4,h6,h7,hr⟩:=hr
        split at hr
        ·rename_i cs ho
         obtain⟨h8,h9,wz⟩:=hr
         simpa only[AK,Ad]using QJ (ty:=o.type) hc hsrc ho hu h1 h4 h8 h9 h2 h3 h6 h7 wz
        ·exact hr.elim
       ·rename_i ob off len sz c hmt
        obtain⟨rfl,h4,h6,h7,hr⟩:=hr
        split at hr
        ·rename_i cs ho
         obtain⟨h8,h9,wz⟩:=hr
         have hc':ET F G [.msl ob 0 len sz,b] H [u,v] w:=by
          obtain⟨hv1,_,hr1⟩:=hc.l.uncons
          cases hv1 with
          |mslc _ _ _ _ _ b' hb hl hm hcc =>
           refine⟨.cons (.msl ob 0 len sz b' c hb hl hm hcc) (Fj (FX rfl rfl _) _ _ _) hr1,hc.h,λx=>?_⟩
           have:=hc.cnt x
           rw[Fc,FX rfl rfl]at this ⊢
           exact this
         simpa only[AK,Ad]using QJ (ty:=o.type) hc' hsrc ho hu h1 h4 h8 h9 h2 h3 h6 h7 wz
        ·exact hr.elim
       ·obtain⟨h4,h5,h6,h7⟩:=hr
        simpa only[AK,Ad]using XS (ty:=o.type) hc hsrc hu h1 h2 h3 h4 h5 h6 h7
       ·exact hr.elim
      ·exact hr.elim
     ·exact hr.elim
    ·exact hr.elim
   case cap =>
    split at hr
    ·rename_i ob off len sz cp
     obtain⟨u,hu1⟩:=bQ (us:=args.map ρ) (by have:=hc.l.len;simp at this;simp;omega)
     rw[e0,hu1]at hc
     simp only[resolve,hu1,AK,Ad,AZ,invoke,builtin]
     split at hr
     ·rename_i e hb
      obtain⟨t,h1,h2⟩:=CD.1 hb
      simpa only[AK,Ad]using fJ (ty:=o.type) hc h1 h2 hr
     ·exact hr.elim
    ·exact hr.elim
   case copy =>
    split at hr
    ·rename_i a b t t' hat
     have hat':argTypes=#[t,t']:=by rw[<- Bl (xs:=argTypes),hat]
     subst hat'
     obtain⟨u,v,huv⟩:=R5 (us:=args.map ρ) (by have:=hc.l.len;simp at this;simp;omega)
     rw[e0,huv]at hc
     simp only[resolve,huv,AK,Ad,AZ,invoke,builtin]
     simpa only[AK,Ad]using AAz (ty:=o.type) hc hr
    ·exact hr.elim
   case clear =>
    split at hr
    ·rename_i ob off len sz t hat
     split at hr
     ·rename_i e hu
      split at hr
      ·rename_i cs ho
       obtain⟨z,h1,h2,h3,h4,h5⟩:=hr
       have hat':argTypes=#[t]:=by rw[<- Bl (xs:=argTypes),hat]
       subst hat'
       obtain⟨u,hu1⟩:=bQ (us:=args.map ρ) (by have:=hc.l.len;simp at this;simp;omega)
       rw[e0,hu1]at hc
       simp only[resolve,hu1,AK,Ad,AZ,invoke,builtin]
       simpa only[AK,Ad]using AAw (ty:=o.type) hc ho hu h1 h2 h3 h4 h5
      ·exact hr.elim
     ·exact hr.elim
    ·exact hr.elim
   case len =>
    split at hr
    ·rename_i x
     obtain⟨u,hu1⟩:=bQ (us:=args.map ρ) (by have:=hc.l.len;simp at this;simp;omega)
     rw[e0,hu1]at hc
     simp only[resolve,hu1,AK,Ad,AZ,invoke,builtin]
     split at hr
     ·rename_i e own es hb
      obtain⟨t,h1,h2⟩:=CD.1 hb
      simpa only[AK,Ad]using s8 (ty:=o.type) hc h1 h2 hr
     ·rename_i e ob off len sz hb
      obtain⟨t,h1,h2⟩:=CD.1 hb
      simpa only[AK,Ad]using mU (ty:=o.type) hc h1 h2 hr
     ·rename_i e ob off len sz c hb
      obtain⟨t,h1,h2⟩:=CD.1 hb
      simpa only[AK,Ad]using fI (ty:=o.type) hc h1 h2 hr
     ·rename_i s hb
      obtain⟨t,h1,h2⟩:=CD.1 hb
      simpa only[AK,Ad]using mT (ty:=o.type) hc h1 h2 hr
     ·rename_i n e hb
      obtain⟨t,h1,h2⟩:=CD.1 hb
      simpa only[AK,Ad]using mV (ty:=o.type) hc h1 h2 hr
     ·exact hr.elim
    ·exact hr.elim
   case max =>
    split at hr
    ·obtain⟨rfl,hr⟩:=hr
     obtain⟨u,v,huv⟩:=R5 (us:=args.map ρ) (by have:=hc.l.len;simp at this;simp;omega)
     rw[e0,huv]at hc
     simp only[resolve,huv,AK,Ad,AZ,invoke,builtin]
     simpa only[AK,Ad]using AIM (P:=P) (ts:=argTypes) (ty:=o.type) hc hr
    ·exact hr.elim
   case min =>
    split at hr
    ·obtain⟨rfl,hr⟩:=hr
     obtain⟨u,v,huv⟩:=R5 (us:=args.map ρ) (by have:=hc.l.len;simp at this;simp;omega)
     rw[e0,huv]at hc
     simp only[resolve,huv,AK,Ad,AZ,invoke,builtin]
     simpa only[AK,Ad]using AIL (P:=P) (ts:=argTypes) (ty:=o.type) hc hr
    ·exact hr.elim
 ·exact hr.elim
end
end Go.AI
namespace Go.AI
def lD(ops:Array Oper)(env:Fs)(o:Oper):Option Bool :=
 match o.guard with
 |none=>some true
 | some (j,want)=>match (ops[j]?).bind (·.dst) with
  |some d=>match Fr env d with
   |.bool b=>some (b==want)
   |.tup _=>some false
   |_=>none
  |none=>none
def Gj(n:Nat):Option Tmp->Prop
 |some d=>d<n
 |none=>True
def put(d:Option Tmp)(v:AV)(env:Fs):Fs :=
 match d with
 |some t=>(t,v)::env
 |none=>env
def Ie(P:Program)(n:Nat)(h:EW)(ops:Array Oper)(o:Oper)(K:Fs->cj->Prop)(env:Fs)(H:cj):Prop :=
 match lD ops env o with
 |some true=>Gj n o.dst/\Fh P h o (OX P (HQ o) (F0 h o) o.op.operands.toList env).1 H λv H'=>K (put o.dst v (OX P (HQ o) (F0 h o) o.op.operands.toList env).2) H'
 |some false=>Gj n o.dst/\K (put o.dst (.tup []) env) H
 |none=>False
def LO(P:Program)(n:Nat)(h:EW)(ops:Array Oper):List Oper->(Fs->cj->Prop)->Fs->cj->Prop
 |[],K=>K
 |o::rest,K=>Ie P n h ops o (LO P n h ops rest K)
abbrev dA(ro:Option Nat):Fence:={ Fence.wide with round:=ro }
def aZ(w:World)(b:Nat):Prop:=w.heap[b]? =some (.deferred (some []))
def DOk(F:Nat->Prop)(w:World)(ds:List Deferred):Prop :=
 ∃bs:List Nat,ds=bs.map (λb=>{ target:=.collected b,args:=#[] })/\bs.Nodup /\ ∀b∈bs,¬F b/\aZ w b
def DOk.nil(F:Nat->Prop)(w:World):DOk F w []:=⟨[],rfl,List.nodup_nil,λb hb=>by cases hb⟩
def DOk.keep{F:Nat->Prop}{w w':World}{ds:List Deferred}(h:DOk F w ds)(hk:∀b,aZ w b->aZ w' b):DOk F w' ds:=by
 obtain⟨bs,h1,h2,h3⟩:=h
 exact⟨bs,h1,h2,λb hb=>⟨(h3 b hb).1,hk b (h3 b hb).2⟩⟩
def ORel.not_isD{F:Nat->Prop}{G:Gh}{w:World}{cs:List AV}{b:Nat}(h:ORel F G w cs b): ¬aZ w b:=λhd=>by
 have hi:=h.is
 unfold aZ at hd
 split at hi
 ·obtain⟨C,E,h1,_⟩:=hi;rw[hd]at h1;cases h1
 ·obtain⟨es,ms,cl,h1,_⟩:=hi;rw[hd]at h1;cases h1
 ·rcases hi with⟨s,pos,h1,_⟩|⟨h1,_⟩|⟨_,_,_,_,h1,_⟩<;>(rw[hd]at h1;cases h1)
 ·obtain⟨s,p,t,D,st,vals,h1,_⟩:=hi;rw[hd]at h1;cases h1
 ·exact hi.elim
def CRel.addD{F:Nat->Prop}{G:Gh}{vs:List AV}{H:cj}{us:List Value}{w:World}(h:ET F G vs H us w):ET (λb=>F b\/aZ w b) G vs H us w:=by
 have hto:∀{p:AV×Value},GD F G w p->GD (λb=>F b\/aZ w b) G w p:=λhp=>hp.keep λb hb=>by
  obtain⟨h1,_,C,E,h3⟩:=hp.of_tok hb
  refine⟨?_,rfl,rfl⟩
  rintro (hF|hd)
  ·exact h1 hF
  ·unfold aZ at hd;rw[h3]at hd;cases hd
 refine⟨⟨h.l.len,h.l.rel,λi a u h1 h2 p hp=>hto (h.l.tok i a u h1 h2 p hp)⟩,⟨h.h.len,λo cs b h1 h2=>?_,h.h.inj,λb hb=>?_,h.h.glob⟩,h.cnt⟩
 ·refine(h.h.obj o cs b h1 h2).change ?_ λ_ _ _ _ _ _ _ _ hp=>hto hp
  rintro (hF|hd)
  ·exact(h.h.obj o cs b h1 h2).own hF
  ·exact(h.h.obj o cs b h1 h2).not_isD hd
 ·rcases hb with hF|hd
  ·exact h.h.fore b hF
  ·exact(An.1 hd).1
structure SRel (F:Nat->Prop) (G:Gh) (n:Nat) (env:Fs) (H:cj) (a:Act) (w:World):Prop where
 size:a.tmps.size=n
 defers:DOk F w a.defers
 out:∀t,n<=t->Fr env t = .undef
 c:ET F G (Gn n env) H a.tmps.toList w
section
variable{P:Program}{F:Nat->Prop}{G:Gh}{w:World}{H:cj}{n:Nat}{env:Fs}{a:Act}{h:EW}{ops:Array Oper}
def NZ(F:Nat->Prop)(G:Gh)(w:World)(n:Nat)(K:Fs->cj->Prop)(a':Act)(w':World):Prop :=
 ∃env' H' G',K env' H'/\SRel F G' n env' H' a' w'/\Ext F G w G' w'
def CRel.setSlot{v:AV}{L:List AV}{u:Value}{tm:List Value}(hc:ET F G (v::L) H (u::tm) w){d:Nat}(hd:d<tm.length):ET F G (L.set d v) H (tm.set d u) w:=by
 obtain⟨hv,ht,hl⟩:=hc.l.uncons
 have hlen:=hl.len
 have old1:L[d]? =some (L[d]' FR):=AH _
 have old2:tm[d]? =some tm[d]:=AH _
 refine⟨⟨by simp[hlen],λi x y h1 h2=>?_,λi x y h1 h2=>?_⟩,hc.h,λb=>?_⟩
 ·rw[Ax]at h1 h2
  split at h1
  ·rename_i e
   subst e
   rw[iP rfl,iP hd]at h2
   rw[iP FR]at h1
   cases h1;cases h2;exact hv
  ·rename_i e
   rw[iN e]at h2
   exact hl.rel i x y h1 h2
 ·rw[Ax]at h1 h2
  split at h1
  ·rename_i e
   subst e
   rw[iP rfl,iP hd]at h2
   rw[iP FR]at h1
   cases h1;cases h2;exact ht
  ·rename_i e
   rw[iN e]at h2
   exact hl.tok i x y h1 h2
 ·have h1:=Uz b L tm d v _ u _ old1 old2
  have h2:=hc.cnt b
  rw[Fc]at h2
  omega
def CRel.tail{v:AV}{L:List AV}{u:Value}{tm:List Value}(hc:ET F G (v::L) H (u::tm) w):ET F G L H tm w :=
 ⟨hc.l.uncons.2.2,hc.h,λb=>by have:=hc.cnt b;rw[Fc]at this;omega⟩
def U4{v:AV}{u:Value}(hs:a.tmps.size=n)(hd:DOk F w a.defers)(ho:∀t,n<=t->Fr env t = .undef)(hc:ET F G (v::Gn n env) H (u::a.tmps.toList) w)(dst:Option Tmp)(hdst:Gj n dst):
  SRel F G n (put dst v env) H (a.put dst u) w:=by
 cases dst with
 |none=>exact⟨hs,hd,ho,hc.tail⟩
 | some d =>
  have hdn:d<n:=hdst
  refine⟨by simp[Act.put,hs],hd,λt ht=>?_, ?_⟩
  ·simp only[put,Fr]
   rw[iN (λe=>by subst e;exact absurd hdn (Nat.not_lt.2 ht))]
   exact ho t ht
  ·simp only[put,Act.put,Array.toList_setIfInBounds]
   rw[S4 env v hdn]
   exact hc.setSlot (by simp[hs];exact hdn)
def YT{o:Oper}{b:Bool}(hs:SRel F G n env H a w)(hg:lD ops env o=some b):Region.wanted o (yielded ops a.tmps)=b:=by
 unfold lD at hg
 unfold Region.wanted
 cases hgd:o.guard with
 |none=>rw[hgd]at hg;simp only[Option.some.injEq]at hg;exact hg
 | some p =>
  obtain⟨j,want⟩:=p
  rw[hgd]at hg
  simp only at hg ⊢
  cases hd:(ops[j]?).bind (·.dst)with
  |none=>rw[hd]at hg;cases hg
  | some d =>
   rw[hd]at hg
   simp only at hg
   split at hg
   ·rename_i b' hl
    have hdn:d<n:=by
     by_cases hdn:d<n
     ·exact hdn
     ·rw[hs.out d (B' hdn)]at hl;cases hl
    obtain⟨x,hx⟩:∃x,a.tmps[d]? =some x:=⟨_,Ai (by rw[hs.size];exact hdn)⟩
    have hr:=hs.c.l.rel d (Fr env d) x (IK env hdn) (by rw[Ac];exact hx)
    rw[hl]at hr
    have hv:a.tmps[d]? =some (.bool b'):=by rw[hx];cases hr;rfl
    simp only[Option.some.injEq]at hg
    unfold yielded
    rw[hd]
    simp only[BY,hv]
    rw[<- hg]
    cases b'<;>cases want<;>rfl
   ·rename_i vs hl
    have hdn:d<n:=by
     by_cases hdn:d<n
     ·exact hdn
     ·rw[hs.out d (B' hdn)]at hl;cases hl
    obtain⟨x,hx⟩:∃x,a.tmps[d]? =some x:=⟨_,Ai (by rw[hs.size];exact hdn)⟩
    have hr:=hs.c.l.rel d (Fr env d) x (IK env hdn) (by rw[Ac];exact hx)
    rw[hl]at hr
    simp only[Option.some.injEq]at hg
    subst hg
    unfold yielded
    rw[hd]
    simp only[BY,hx]
    cases hr
    rfl
   ·cases hg
def Xt{o:Oper}{vals:List AV}{R:AV->cj->Prop}(ha:Fh P h o vals H R): ∀c,o.op ≠ .defer c:=λc hc=>by
 unfold Fh at ha
 rw[hc]at ha
 exact ha
def ja{ro:Option Nat}{nn:Nat}{o:Oper}{K:Fs->cj->Prop}(hs:SRel F G n env H a w)(ha:Ie P n h ops o K env H)(Q:Exit->Act->World->Prop):
  if Region.wanted o (yielded ops a.tmps)then o.wpIn (dA ro) nn P a w (NZ F G w n K) Q else NZ F G w n K (a.put o.dst Go.undef) w:=by
 unfold Ie at ha
 split at ha
 ·rename_i hg
  rw[YT hs hg,iP rfl]
  obtain⟨hdst,ha⟩:=ha
  obtain⟨hev,hout⟩:=ACH (P:=P) (w:=w) (F:=F) (G:=G) (H:=H) (a:=a) (HQ o) (F0 h o) hs.size o.op.operands.toList env [] [] hs.c rfl hs.out
  simp only[AR]at hev
  generalize OX P (HQ o) (F0 h o) o.op.operands.toList env=r at *
  have hlen:r.1.length=(o.op.operands.toList.map a.eval).length:=by
   have:=hev.l.len
   simp only[AF,HO,Array.length_toList,hs.size]at this
   omega
  obtain⟨_,hB⟩:=hev.l.split hlen
  have hA:=(hev.split hlen).addD
  have hcb:∀b,HA b (Gn n r.2) a.tmps.toList<=1:=λb=>by
   have:=hev.cnt b
   rw[GV _ _ _ _ _ hlen]at this
   omega
  have hres:=AGJ h o a.eval (λ_=>rfl) r.1 hA ha
  have back:∀u w',Fi (λb=>(F b\/0<HA b (Gn n r.2) a.tmps.toList)\/aZ w b) G w (λv H'=>K (put o.dst v r.2) H') u w'->NZ F G w n K (a.put o.dst u) w':=by
   rintro u w' ⟨v,H',G',hK,hc,he⟩
   have hj:=TL (F:=F) hB hcb (λb hb=>CE (CE hb)) (λb hb=>CE (Or.inr hb)) he hc
   have hdk:DOk F w' a.defers:=hs.defers.keep λb hb=>(he.cells b (Or.inr hb)).trans hb
   exact⟨_,H',G',hK,U4 hs.size hdk hout hj o.dst hdst,he.mono λb hb=>CE (CE hb)⟩
  refine⟨λ_ _=>trivial, ?_⟩
  rw[Oper.semAt_eq _ _ _ (Xt ha)]
  generalize (execOp a.eval o).run P w=res at hres
  cases res with
  | ok nx w' =>
   cases nx<;>simp only[Fy]at hres
   case value u=>exact back u w' hres
   case skip=>exact back _ w' hres
   case enter f args =>
    show _/\CallsIn (dA ro) (nn - 1) P f args w' _
    refine⟨λhx=>Bool.noConfusion hx, ?_⟩
    refine CallsIn.mono (show CallsIn (dA ro) (nn - 1) P f args w' _ from(callsIn_wide (n:=nn - 1)).2 hres) λe w'' he=>?_
    obtain⟨u,rfl,hk⟩:=he
    exact back u w'' hk
   case round l f tmps assign body =>
    show _/\RoundIn (dA ro) (nn - 1) P l f tmps assign body w' _
    refine⟨λhx=>Bool.noConfusion hx, ?_⟩
    refine RoundIn.mono (show RoundIn (dA ro) (nn - 1) P l f tmps assign body w' _ from⟨trivial,λc cs _=>hres.2 c cs (room_wide _)⟩) λe w'' he=>?_
    obtain⟨u,rfl,hk⟩:=he
    exact back u w'' hk
  |halt x w'=>exact hres.elim
 ·rename_i hg
  rw[YT hs hg]
  obtain⟨hdst,ha⟩:=ha
  refine⟨_,H,G,ha,U4 hs.size hs.defers hs.out ?_ o.dst hdst,.refl F G w⟩
  have htk:Gs (.tup []) Go.undef=[]:=rfl
  refine⟨.cons (.tup [] #[] rfl (λc hc=>by simp at hc) (λi c v hc=>by simp at hc)) (Fj htk F G w) hs.c.l,hs.c.h,λb=>?_⟩
  rw[Fc,htk]
  simpa using hs.c.cnt b
 ·exact ha.elim
def ZV{ro:Option Nat}{nn:Nat}(Q:Exit->Act->World->Prop): ∀(l:List Oper) (K:Fs->cj->Prop) (G:Gh) (env:Fs) (H:cj) (a:Act) (w:World),SRel F G n env H a w->LO P n h ops l K env H ->
  (∀a' w',NZ F G w n K a' w'->Q .normal a' w')->wpListIn (dA ro) nn P ops Q l a w
 |[],K,G,env,H,a,w,hs,ha,hQ=>hQ a w ⟨env,H,G,ha,hs,.refl F G w⟩
 | o::l,K,G,env,H,a,w,hs,ha,hQ=>by
  have hst:=ja (ro:=ro) (nn:=nn) (K:=LO P n h ops l K) hs ha Q
  have next:∀a' w',NZ F G w n (LO P n h ops l K) a' w'->wpListIn (dA ro) nn P ops Q l a' w':=by
   rintro a' w' ⟨env',H',G',hK,hs',he⟩
   refine ZV Q l K G' env' H' a' w' hs' hK λa'' w''=>?_
   rintro ⟨env2,H2,G2,hK2,hs2,he2⟩
   exact hQ a'' w'' ⟨env2,H2,G2,hK2,hs2,he.trans he2⟩
  unfold wpListIn
  split
  ·rename_i hw
   rw[iP hw]at hst
   exact Oper.wpIn_mono next hst
  ·rename_i hw
   rw[iN hw]at hst
   exact⟨λ_ _=>trivial,next _ _ hst⟩
def jU{ro:Option Nat}{nn:Nat}{id:Nat}(K:Fs->cj->Prop)(Q:Exit->Act->World->Prop)(hs:SRel F G n env H a w)(ha:LO P n h ops ops.toList K env H)(hQ:∀a' w',NZ F G w n K a' w'->Q .normal a' w'):
  (Code.region id ops false).wpIn (dA ro) nn P Q a w :=
 wpIn_region_list (ZV Q ops.toList K G env H a w hs ha hQ)
end
end Go.AI
namespace Go.AI
def Gx(h:EW)(o:Oper):Nat :=
 match o.op with
 |.box _ _ | .alloc _ | .makeSlice _ _ _ | .makeMap _ _=>5
 |.store _ _ _ | .lookup _ _ _ _ | .mapUpdate _ _ _ _=>3
 |.buildSlice _ _ _=>if o.dst.any h.mt.contains then 5 else 0
 |.slice _ _ _ _ _=>if o.dst.any h.mt.contains then 1 else 0
 |.load _ _=>if o.dst.any h.tk.contains then 2 else 1
 |.binOp _ _ _ y _=>if Kw y then 4 else 0
 |.range _ _ | .next _ _ | .entry _=>4
 |.call c=>match c.callee with
  |.value _=>if o.dst.any h.pc.contains then(if o.dst.any h.mt.contains then 1 else 0)else if o.dst.any h.mt.contains then 5 else 4
  |.builtin .append=>if o.dst.any h.mt.contains||o.dst.any h.tk.contains then 3 else 0
  |.builtin .clear=>3
  |.builtin .copy=>3
  |_=>0
 |_=>0
def Rp(h:EW)(o:Oper):Bool:=match o.op with
 |.load _ _ => !o.dst.any h.tk.contains
 |_=>false
def Ia{h:EW}{o:Oper}(hl:Rp h o=true):Gx h o=1:=by
 unfold Rp at hl
 unfold Gx
 split at hl
 ·rename_i heq
  rw[heq]
  simp only[BS]at hl
  simp[hl]
 ·cases hl
section
variable{P:Program}{h:EW}{o:Oper}{vals:List AV}{H:cj}{R:AV->cj->Prop}
structure Fact (P:Program) (h:EW) (o:Oper) (vals:List AV) (H:cj) (v:AV) (H':cj):Prop where
 again:∀R',R' v H'->Fh P h o vals H R'
 c0:Gx h o=0->H'=H /\ ∀H2 R',R' v H2->Fh P h o vals H2 R'
 c1:Gx h o=1->H'=H /\ ∀H2 R',Gv H2=Gv H->R' v H2->Fh P h o vals H2 R'
 c2:Gx h o=2->Gv H'=Gv H/\((H'=H /\ ∀H2 R',R' v H2->Fh P h o vals H2 R') \/
  ∃(ob off:Nat) (cs:List AV),H[ob]? =some (some cs)/\cs[off]? =some v/\GB v=true/\H'=H.set ob (some (cs.set off (borrow1 v))) /\
   ∀(H2:cj) (cs2:List AV) (R':AV->cj->Prop),H2[ob]? =some (some cs2)->cs2[off]? =some v->R' v (H2.set ob (some (cs2.set off (borrow1 v))))->Fh P h o vals H2 R')
 ld:Rp h o=true -> ∀H2 R',(∃ext,Gv H2=Gv H++ext)->R' v H2->Fh P h o vals H2 R'
 c5:Gx h o=5 -> ∃ext,H'=H++ext
def Fact.pure{v:AV}(hc:Gx h o=0)(ha:∀(H2:cj) (R':AV->cj->Prop),R' v H2->Fh P h o vals H2 R'):Fact P h o vals H v H :=
 ⟨λR' hr=>ha H R' hr,λ_=>⟨rfl,ha⟩,λe=>FR,λe=>FR,λhl=>by have:=Ia hl;omega,λe=>FR⟩
def Fact.any{v:AV}{H':cj}(hc:Gx h o=3)(ha:∀(R':AV->cj->Prop),R' v H'->Fh P h o vals H R'):Fact P h o vals H v H' :=
 ⟨ha,λe=>FR,λe=>FR,λe=>FR,λhl=>by have:=Ia hl;omega,λe=>FR⟩
def Fact.ext{v:AV}{ext:cj}(hc:Gx h o=5)(ha:∀(R':AV->cj->Prop),R' v (H++ext)->Fh P h o vals H R'):Fact P h o vals H v (H++ext) :=
 ⟨ha,λe=>FR,λe=>FR,λe=>FR,λhl=>by have:=Ia hl;omega,λ_=>⟨ext,rfl⟩⟩
def N3(a:AV):borrow1 (borrow1 a)=borrow1 a:=by cases a<;>rfl
def Ke{H H2:cj}(e:Gv H2=Gv H){ob:Nat}{cs:List AV}(ho:H[ob]? =some (some cs)): ∃cs2,H2[ob]? =some (some cs2)/\cs2.map borrow1=cs.map borrow1:=by
 have h1:(Gv H)[ob]? =some (some (cs.map borrow1)):=by simp[Gv,ho]
 rw[<- e]at h1
 simp only[Gv,Aa,DB]at h1
 obtain⟨x,hx,hx2⟩:=h1
 cases x with
 |none=>simp at hx2
 |some cs2 =>
  exact⟨cs2,hx,by simpa using hx2⟩
def tx{H H2:cj}(e:∃ext,Gv H2=Gv H++ext){ob:Nat}{cs:List AV}(ho:H[ob]? =some (some cs)): ∃cs2,H2[ob]? =some (some cs2)/\cs2.map borrow1=cs.map borrow1:=by
 obtain⟨ext,e⟩:=e
 have h1:(Gv H)[ob]? =some (some (cs.map borrow1)):=by simp[Gv,ho]
 have h2:(Gv H2)[ob]? =some (some (cs.map borrow1)):=by
  rw[e,AX (AC.1 h1).1];exact h1
 simp only[Gv,Aa,DB]at h2
 obtain⟨x,hx,hx2⟩:=h2
 cases x with
 |none=>simp at hx2
 |some cs2=>exact⟨cs2,hx,by simpa using hx2⟩
def PG(a:AV):(borrow1 a).borrow=a.borrow:=by cases a<;>rfl
def fq{t:TypeId}{cs cs2:List AV}{off:Nat}{v:AV}(e:cs2.map borrow1=cs.map borrow1)(hl:Ll P t cs off=some v): ∃v2,Ll P t cs2 off=some v2/\v2.borrow=v.borrow:=by
 have hlen:cs2.length=cs.length:=by have:=congrArg List.length e;simpa using this
 have agg:(AV.agg ((cs2.drop off).take (P.cellsOf t))).borrow=(AV.agg ((cs.drop off).take (P.cellsOf t))).borrow:=by
  simp only[AV.borrow,borrow0,EB,Dc,e]
 unfold Ll at hl ⊢
 split at hl
 ·split at hl
  ·cases hl
   exact⟨_,by rw[iP FR],agg⟩
  ·cases hl
 ·split at hl
  ·cases hl
   exact⟨_,by rw[iP FR],agg⟩
  ·cases hl
 ·have hlt:=(AC.1 hl).1
  have h2:cs2[off]? =some (cs2[off]' FR):=AH _
  refine⟨_,h2, ?_⟩
  have h3:(cs2.map borrow1)[off]? =(cs.map borrow1)[off]?:=by rw[e]
  simp only[Aa,h2,hl,BQ,Option.some.injEq]at h3
  rw[<- PG,h3,PG]
 ·cases hl
def Y3{H:cj}{ob:Nat}{cs cs':List AV}(ho:H[ob]? =some (some cs))(e:cs'.map borrow1=cs.map borrow1):Gv (H.set ob (some cs'))=Gv H:=by
 unfold Gv
 apply A3
 intro i
 simp only[Aa,Ax]
 split
 ·rename_i hi
  subst hi
  rw[iP (AC.1 ho).1,ho]
  simp[e]
 ·rfl
def tH{t:TypeId}{cs:List AV}{off:Nat}{v:AV}(hl:Ll P t cs off=some v)(hag:v.scalar=true\/R6 P t=true):(splice cs off (v.cells.map borrow1)).map borrow1=cs.map borrow1:=by
 have gen:∀k,off+k<=cs.length->(splice cs off (((cs.drop off).take k).map borrow1)).map borrow1=cs.map borrow1:=by
  intro k hk
  have hlen:(((cs.drop off).take k).map borrow1).length=k:=Hy
  unfold splice
  rw[hlen]
  simp only[Aq,By]
  have e1:(borrow1 ∘ borrow1)=borrow1:=funext N3
  rw[e1,<- Aq,<- Aq,AE,<- List.drop_drop,A_,A_]
 unfold Ll at hl
 split at hl
 ·split at hl
  ·cases hl;exact gen _ ‹_›
  ·cases hl
 ·split at hl
  ·cases hl;exact gen _ ‹_›
  ·cases hl
 ·rename_i d hns hna hu
  have hlt:=(AC.1 hl).1
  have hsc:v.scalar=true:=by
   rcases hag with h1|h1
   ·exact h1
   ·unfold R6 at h1
    rw[hu]at h1
    cases d<;>first|exact(hns _ rfl).elim|exact(hna _ _ rfl).elim|cases h1
  have hcells:v.cells=[v]:=by cases v<;>first|rfl|cases hsc
  have:=gen 1 hlt
  rw[List.drop_eq_getElem_cons hlt]at this
  have e:cs[off]=v:=by rw[AH hlt]at hl;exact Option.some.inj hl
  rw[hcells]
  simpa [e]using this
 ·cases hl
def ADZ{op:BinOp}{a b:AV}{R:AV->Prop}(hr:KJ op a b R): ∃v,R v /\ ∀R':AV->Prop,R' v->KJ op a b R':=by
 unfold KJ at hr ⊢
 split at hr
 ·cases op<;>first|exact⟨_,hr.2,λR' h'=>⟨hr.1,h'⟩⟩|exact⟨_,hr.2.2,λR' h'=>⟨hr.1,hr.2.1,h'⟩⟩
 ·cases op<;>first|exact⟨_,hr.2,λR' h'=>⟨hr.1,h'⟩⟩|exact⟨_,hr,λR' h'=>h'⟩|exact hr.elim
 ·exact hr.elim
def pL{op:BinOp}{t:TypeId}{a b:AV}{R:AV->Prop}(hr:KI P op t a b R): ∃v,R v /\ ∀R':AV->Prop,R' v->KI P op t a b R':=by
 unfold KI at hr ⊢
 split at hr
 ·exact⟨_,hr,λR' h'=>h'⟩
 ·exact⟨_,hr,λR' h'=>h'⟩
 ·obtain⟨v,h1,h2⟩:=ADZ hr
  exact⟨v,h1,h2⟩
def QP.view{f:FuncId}{vs:List AV}{H H2:cj}{v:AV}(hv:Gv H2=Gv H)(h:QP P f vs H v):QP P f vs H2 v:=by
 have get:∀o:Nat,(∃cs:List AV,H[o]? =some (some cs)) -> ∃cs:List AV,H2[o]? =some (some cs):=λo ho=>by
  obtain⟨cs,ho⟩:=ho
  obtain⟨cs2,g1,_⟩:=Ke hv ho
  exact⟨cs2,g1⟩
 unfold QP at h ⊢
 split at h
 ·exact⟨h.1,h.2.1,get _ h.2.2.1,get _ h.2.2.2.1,h.2.2.2.2⟩
 ·exact h.elim
def oz{t:TypeId}{x:AV}{lo hi mx:Option Int}{R:AV->Prop}(hr:N7 P t x lo hi mx R): ∃v,R v /\ ∀R':AV->Prop,R' v->N7 P t x lo hi mx R':=by
 unfold N7 at hr ⊢
 split at hr
 ·obtain⟨h1,h2,h3,h4,h5⟩:=hr
  exact⟨_,h5,λR' h'=>⟨h1,h2,h3,h4,h'⟩⟩
 ·obtain⟨h1,h2,h3,h4,h5,h6⟩:=hr
  split at h6
  ·exact⟨_,h6,λR' h'=>⟨h1,h2,h3,h4,h5,h'⟩⟩
  ·exact⟨_,h6.2.2,λR' h'=>⟨h1,h2,h3,h4,h5,h6.1,h6.2.1,h'⟩⟩
 ·exact⟨_,hr.2,λR' h'=>⟨hr.1,h'⟩⟩
 ·exact⟨_,hr.2,λR' h'=>⟨hr.1,h'⟩⟩
 ·obtain⟨h1,h2,h3,h4⟩:=hr
  split at h4
  ·obtain⟨g1,g2,g3,g4⟩:=h4
   exact⟨_,g4,λR' h'=>⟨h1,h2,h3,g1,g2,g3,h'⟩⟩
  ·exact h4.elim
 ·obtain⟨h1,g1,g2,g3,g4⟩:=hr
  exact⟨_,g4,λR' h'=>⟨h1,g1,g2,g3,h'⟩⟩
 ·exact hr.elim
def yW{t:TypeId}{a b:AV}(hr:To P t a b H R): ∃v H',R v H' /\ ∀R':AV->cj->Prop,R' v H'->To P t a b H R':=by
 unfold To at hr ⊢
 split at hr
 ·split at hr
  ·obtain⟨h1,h2⟩:=hr
   split at h2
   ·exact⟨_,_,h2,λR' h'=>⟨h1,h'⟩⟩
   ·exact h2.elim
  ·exact hr.elim
 ·exact hr.elim
def AGK{t t':TypeId}{mt:Bool}{a b:AV}(hr:apz P t t' mt a b H R):mt=true /\ ∃v H',R v H' /\ ∀R':AV->cj->Prop,R' v H'->apz P t t' mt a b H R':=by
 unfold apz at hr ⊢
 split at hr
 ·split at hr
  ·obtain⟨z,h1,h2,h3⟩:=hr
   exact⟨rfl,_,_,h3,λR' h'=>⟨z,h1,h2,h'⟩⟩
  ·exact hr.elim
 ·exact hr.elim
def jW{t:TypeId}{x:AV}{lo hi mx:Option Int}{R:AV->Prop}(hr:KF P t x lo hi mx H R): ∃v,R v /\ ∀(H2:cj) (R':AV->Prop),Gv H2=Gv H->R' v->KF P t x lo hi mx H2 R':=by
 unfold KF at hr
 split at hr
 ·rename_i hu
  obtain⟨h1,h2,h3,h4⟩:=hr
  split at h4
  ·rename_i cs ho
   refine⟨_,h4.2,λH2 R' hv h'=>?_⟩
   obtain⟨cs2,g1,g2⟩:=Ke hv ho
   have hl:cs2.length=cs.length:=by have:=congrArg List.length g2;simpa using this
   unfold KF
   simp only[hu,g1,hl]
   exact⟨h1,h2,h3,h4.1,h'⟩
  ·exact h4.elim
 ·rename_i hu
  obtain⟨h1,h2,h3⟩:=hr
  refine⟨_,h3,λH2 R' _ h'=>?_⟩
  unfold KF
  simp only[hu]
  exact⟨h1,h2,h'⟩
 ·exact hr.elim
def TA(hc4:Gx h o≠4)(hr:Fh P h o vals H R): ∃ v H',R v H'/\Fact P h o vals H v H':=by
 unfold Fh at hr
 split at hr<;>rename_i heq
 ·exact⟨_,_,hr,.pure (by simp[Gx,heq]) λH2 R' h'=>by simp only[Fh,heq];exact h'⟩
 ·exact⟨_,_,hr,.pure (by simp[Gx,heq]) λH2 R' h'=>by simp only[Fh,heq];exact h'⟩
 ·exact⟨_,_,hr,.pure (by simp[Gx,heq]) λH2 R' h'=>by simp only[Fh,heq];exact h'⟩
 ·exact⟨_,_,hr.2,.ext (by simp[Gx,heq]) λR' h'=>by simp only[Fh,heq];exact⟨hr.1,h'⟩⟩
 ·split at hr
  ·rename_i hm
   exact⟨_,_,hr.2,.ext (by simp[Gx,heq]) λR' h'=>by simp only[Fh,heq,hm];exact⟨hr.1,h'⟩⟩
  ·rename_i hm
   obtain⟨z,hz,hr⟩:=hr
   exact⟨_,_,hr,.ext (by simp[Gx,heq]) λR' h'=>by simp only[Fh,heq,hm];exact⟨z,hz,h'⟩⟩
 ·split at hr
  ·rename_i hu
   obtain⟨z,cs,h1,h2,h3,h4⟩:=hr
   exact⟨_,_,h4,.pure (by simp[Gx,heq]) λH2 R' h'=>by simp only[Fh,heq,hu];exact⟨z,cs,h1,h2,h3,h'⟩⟩
  ·rename_i hu
   obtain⟨z,cs,h1,h2,h3,h4⟩:=hr
   exact⟨_,_,h4,.pure (by simp[Gx,heq]) λH2 R' h'=>by simp only[Fh,heq,hu];exact⟨z,cs,h1,h2,h3,h'⟩⟩
  ·exact hr.elim
 ·split at hr
  ·rename_i hu
   obtain⟨h1,h2,h3,h4,h5,h6⟩:=hr
   split at h6
   ·rename_i hp
    exact⟨_,_,h6,.ext (by simp[Gx,heq,hp]) λR' h'=>by simp only[Fh,heq,hu,hp];exact⟨h1,h2,h3,h4,h5,h'⟩⟩
   ·rename_i hp
    exact⟨_,_,h6,.pure (by simp[Gx,heq,hp]) λH2 R' h'=>by simp only[Fh,heq,hu,hp];exact⟨h1,h2,h3,h4,h5,h'⟩⟩
  ·exact hr.elim
 ·split at hr
  ·rename_i hu
   obtain⟨h1,h2,h3,h4,h5,z,h6,h7,h8,h9⟩:=hr
   exact⟨_,_,h9,.ext (by simp[Gx,heq]) λR' h'=>by simp only[Fh,heq,hu];exact⟨h1,h2,h3,h4,h5,z,h6,h7,h8,h'⟩⟩
  ·exact hr.elim
 · -- load from an object
  rename_i t _ ob off
  split at hr
  ·rename_i cs ho
   split at hr
   ·rename_i v hl
    split at hr
    ·rename_i ht
     obtain⟨hown,hsc,hr⟩:=hr
     have hc1:Gx h o=2:=by simp[Gx,heq,ht]
     have hcells:v.cells=[v]:=by cases v<;>first|rfl|cases hsc
     have hat:cs[off]? =some v:=by
      have h1:=hl
      unfold Ll at h1
      split at h1
      ·split at h1
       ·cases h1;cases hsc
       ·cases h1
      ·split at h1
       ·cases h1;cases hsc
       ·cases h1
      ·exact h1
      ·cases h1
     have hone:∀cs2:List AV,off<cs2.length->splice cs2 off (v.cells.map borrow1)=cs2.set off (borrow1 v):=by
      intro cs2 hlt
      rw[hcells]
      simp only[AS,Ah,splice,AD,AJ,AU]
      rw[List.set_eq_take_append_cons_drop,iP hlt]
      simp
     have hldv:∀cs2:List AV,cs2[off]? =some v->Ll P t cs2 off=some v:=by
      intro cs2 h2
      unfold Ll at hl ⊢
      split at hl
      ·split at hl
       ·cases hl;cases hsc
       ·cases hl
      ·split at hl
       ·cases hl;cases hsc
       ·cases hl
      ·exact h2
      ·cases hl
     have hown1:GB v=true:=by
      cases v<;>first|cases hsc|skip
      all_goals first|(simpa [AV.owned,AV.flat,AV.cells]using hown)|rfl
     refine⟨_,_,hr,λR' h'=>by simp only[Fh,heq,ho,hl,ht];exact⟨hown,hsc,h'⟩,λe=>FR,λe=>FR,λ_=>⟨Y3 ho (tH hl (.inl hsc)),.inr ⟨ob,off,cs,ho,hat,hown1, ?_,λH2 cs2 R' h1 h2 h'=>?_⟩⟩,λhl=>by have:=Ia hl;omega,λe=>FR⟩
     ·rw[hone cs (AC.1 hat).1]
     ·simp only[Fh,heq,h1,hldv cs2 h2,ht]
      refine⟨hown,hsc, ?_⟩
      rw[hone cs2 (AC.1 h2).1];exact h'
    ·rename_i ht
     have hc1:Gx h o=1:=by simp[Gx,heq,ht]
     refine⟨_,_,hr,λR' h'=>?_,λe=>FR,λe=>⟨rfl,λH2 R' hv h'=>?_⟩,λe=>FR,λ_ H2 R' hv h'=>?_,λe=>FR⟩
     ·simp only[Fh,heq,ho,hl,ht]
      exact h'
     ·obtain⟨cs2,ho2,e2⟩:=Ke hv ho
      obtain⟨v2,hl2,hb⟩:=fq (P:=P) e2 hl
      simp only[Fh,heq,ho2,hl2,ht]
      rw[hb]
      exact h'
     ·obtain⟨cs2,ho2,e2⟩:=tx hv ho
      obtain⟨v2,hl2,hb⟩:=fq (P:=P) e2 hl
      simp only[Fh,heq,ho2,hl2,ht]
      rw[hb]
      exact h'
   ·exact hr.elim
  ·exact hr.elim
 ·split at hr
  ·rename_i v hl
   refine⟨_,_,hr,λR' h'=>by simp only[Fh,heq,hl];exact h',λe=>?_,λe=>⟨rfl,λH2 R' _ h'=>by simp only[Fh,heq,hl];exact h'⟩,λ_=>⟨rfl,.inl ⟨rfl,λH2 R' h'=>by simp only[Fh,heq,hl];exact h'⟩⟩,λ_ H2 R' _ h'=>by simp only[Fh,heq,hl];exact h',λe=>by simp only[Gx,heq]at e;split at e<;>omega⟩
   simp only[Gx,heq]at e
   split at e<;>omega
  ·exact hr.elim
 ·split at hr
  ·rename_i cs ho
   obtain⟨h1,h2,h3,h4,h5⟩:=hr
   exact⟨_,_,h5,.any (by simp[Gx,heq]) λR' h'=>by simp only[Fh,heq,ho];exact⟨h1,h2,h3,h4,h'⟩⟩
  ·exact hr.elim
 ·exact⟨_,_,hr,.pure (by simp[Gx,heq]) λH2 R' h'=>by simp only[Fh,heq];exact h'⟩
 ·exact⟨_,_,hr,.pure (by simp[Gx,heq]) λH2 R' h'=>by simp only[Fh,heq];exact h'⟩
 ·exact⟨_,_,hr,.pure (by simp[Gx,heq]) λH2 R' h'=>by simp only[Fh,heq];exact h'⟩
 ·exact⟨_,_,hr,.pure (by simp[Gx,heq]) λH2 R' h'=>by simp only[Fh,heq];exact h'⟩
 ·split at hr
  ·rename_i hy
   exact absurd (by simp[Gx,heq,hy]) hc4
  ·rename_i hy
   obtain⟨v,h1,h2⟩:=pL hr
   exact⟨_,_,h1,.pure (by simp[Gx,heq,hy]) λH2 R' h'=>by simp only[Fh,heq,hy];exact h2 _ h'⟩
 ·split at hr
  ·exact⟨_,_,hr,.pure (by simp[Gx,heq]) λH2 R' h'=>by simp only[Fh,heq];exact h'⟩
  ·exact⟨_,_,hr,.pure (by simp[Gx,heq]) λH2 R' h'=>by simp only[Fh,heq];exact h'⟩
  ·exact hr.elim
 ·split at hr
  ·rename_i h1 h2
   exact⟨_,_,hr,.pure (by simp[Gx,heq]) λH2 R' h'=>by simp only[Fh,heq,h1,h2];exact h'⟩
  ·rename_i h1 h2
   exact⟨_,_,hr,.pure (by simp[Gx,heq]) λH2 R' h'=>by simp only[Fh,heq,h1,h2];exact h'⟩
  ·rename_i h1 h2
   exact⟨_,_,hr.2.2,.pure (by simp[Gx,heq]) λH2 R' h'=>by simp only[Fh,heq,h1,h2];exact⟨hr.1,hr.2.1,h'⟩⟩
  ·exact hr.elim
 ·exact⟨_,_,hr,.pure (by simp[Gx,heq]) λH2 R' h'=>by simp only[Fh,heq];exact h'⟩
 ·split at hr
  ·rename_i hb
   split at hr
   ·rename_i hm
    have hc1:Gx h o=1:=by simp[Gx,heq,hm]
    obtain⟨v,h1,h2⟩:=jW hr
    exact⟨_,_,h1,⟨λR' h'=>by simp only[Fh,heq,hb,hm];exact h2 H _ rfl h',λe=>FR,λ_=>⟨rfl,λH2 R' hv h'=>by simp only[Fh,heq,hb,hm];exact h2 H2 _ hv h'⟩,λe=>FR,λhl=>by simp[Rp,heq]at hl,λe=>FR⟩⟩
   ·rename_i hm
    obtain⟨v,h1,h2⟩:=oz hr
    exact⟨_,_,h1,.pure (by simp[Gx,heq,hm]) λH2 R' h'=>by simp only[Fh,heq,hb,hm];exact h2 _ h'⟩
  ·exact hr.elim
 ·split at hr
  ·rename_i hu
   split at hr
   ·rename_i hf
    obtain⟨h0,hr⟩:=hr
    split at hr
    ·exact⟨_,_,hr,.pure (by simp[Gx,heq]) λH2 R' h'=>by simp only[Fh,heq,hu,hf];exact⟨h0,h'⟩⟩
    ·exact⟨_,_,hr,.pure (by simp[Gx,heq]) λH2 R' h'=>by simp only[Fh,heq,hu,hf];exact⟨h0,h'⟩⟩
    ·exact hr.elim
   ·exact hr.elim
  ·exact hr.elim
 ·split at hr
  ·rename_i hu
   split at hr
   ·rename_i hf
    split at hr
    ·rename_i hl
     exact⟨_,_,hr,.pure (by simp[Gx,heq]) λH2 R' h'=>by simp only[Fh,heq,hu,hf,hl];exact h'⟩
    ·exact hr.elim
   ·exact hr.elim
  ·exact hr.elim
 ·obtain⟨v,hv,hr⟩:=hr
  exact⟨_,_,hr,.pure (by simp[Gx,heq]) λH2 R' h'=>by simp only[Fh,heq];exact⟨v,hv,h'⟩⟩
 ·split at hr
  ·rename_i hu
   obtain⟨h0,v,h1,h2,h3,h4⟩:=hr
   exact⟨_,_,h4,.pure (by simp[Gx,heq]) λH2 R' h'=>by simp only[Fh,heq,hu];exact⟨h0,v,h1,h2,h3,h'⟩⟩
  ·rename_i hu
   obtain⟨h0,h1,h2,h3,h4⟩:=hr
   exact⟨_,_,h4,.pure (by simp[Gx,heq]) λH2 R' h'=>by simp only[Fh,heq,hu];exact⟨h0,h1,h2,h3,h'⟩⟩
  ·rename_i hu
   obtain⟨h0,h1,h2,h4⟩:=hr
   exact⟨_,_,h4,.pure (by simp[Gx,heq]) λH2 R' h'=>by simp only[Fh,heq,hu];exact⟨h0,h1,h2,h'⟩⟩
  ·rename_i hu
   obtain⟨h0,h1,h2,h4⟩:=hr
   exact⟨_,_,h4,.pure (by simp[Gx,heq]) λH2 R' h'=>by simp only[Fh,heq,hu];exact⟨h0,h1,h2,h'⟩⟩
  ·exact hr.elim
 ·split at hr
  ·rename_i hu
   obtain⟨h0,h1,h4⟩:=hr
   exact⟨_,_,h4,.pure (by simp[Gx,heq]) λH2 R' h'=>by simp only[Fh,heq,hu];exact⟨h0,h1,h'⟩⟩
  ·rename_i hu
   obtain⟨h0,h1,h2,v,h3,h4⟩:=hr
   exact⟨_,_,h4,.pure (by simp[Gx,heq]) λH2 R' h'=>by simp only[Fh,heq,hu];exact⟨h0,h1,h2,v,h3,h'⟩⟩
  ·exact hr.elim
 ·exact⟨_,_,hr,.ext (by simp[Gx,heq]) λR' h'=>by simp only[Fh,heq];exact h'⟩
 ·exact⟨_,_,hr.2,.ext (by simp[Gx,heq]) λR' h'=>by simp only[Fh,heq];exact⟨hr.1,h'⟩⟩
 ·split at hr
  ·rename_i hu
   split at hr
   ·rename_i es he
    obtain⟨g1,g2,z,g3,g4⟩:=hr
    exact⟨_,_,g4,.any (by simp[Gx,heq]) λR' h'=>by simp only[Fh,heq,hu,he];exact⟨g1,g2,z,g3,h'⟩⟩
   ·exact hr.elim
  ·exact hr.elim
 ·split at hr
  ·rename_i hu
   split at hr
   ·rename_i es he
    obtain⟨g1,g2,g3,g4⟩:=hr
    exact⟨_,_,g4,.any (by simp[Gx,heq]) λR' h'=>by simp only[Fh,heq,hu,he];exact⟨g1,g2,g3,h'⟩⟩
   ·exact hr.elim
  ·exact hr.elim
 ·exact absurd (by simp[Gx,heq]) hc4
 ·exact absurd (by simp[Gx,heq]) hc4
 ·exact absurd (by simp[Gx,heq]) hc4
 · -- calls
  rename_i c
  obtain⟨callee,args,argTypes⟩:=c
  cases callee with
  |invoke r m=>exact hr.elim
  | value fo =>
   simp only at hr
   split at hr
   ·split at hr
    ·rename_i hp
     split at hr
     ·rename_i hq
      obtain⟨v,hcall,hr⟩:=hr
      have hc1:Gx h o=1:=by simp[Gx,heq,hp,hq]
      exact⟨_,_,hr,λR' h'=>by simp only[Fh,heq,hp,hq];exact⟨v,hcall,h'⟩,λe=>FR,λ_=>⟨rfl,λH2 R' hv h'=>by
       simp only[Fh,heq,hp,hq]
       exact⟨v,hcall.imp (λhcall H3 h3=>hcall H3 (h3.trans hv)) (λhx=>QP.view hv hx),h'⟩⟩,λe=>FR,λhl=>by simp[Rp,heq]at hl,λe=>FR⟩
     ·rename_i hq
      obtain⟨v,hcall,hr⟩:=hr
      exact⟨_,_,hr,.pure (by simp[Gx,heq,hp,hq]) λH2 R' h'=>by simp only[Fh,heq,hp,hq];exact⟨v,hcall,h'⟩⟩
    ·rename_i hp
     split at hr
     ·rename_i hq
      obtain⟨v,ext,hcall,hr⟩:=hr
      exact⟨_,_,hr,.ext (by simp[Gx,heq,hp,hq]) λR' h'=>by simp only[Fh,heq,hp,hq];exact⟨v,ext,hcall,h'⟩⟩
     ·rename_i hq
      exact absurd (by simp[Gx,heq,hp,hq]) hc4
   ·obtain⟨⟨hp,hq⟩,_⟩:=hr
    exact absurd (by simp[Gx,heq,hp,hq]) hc4
   ·exact hr.elim
  | builtin b =>
   cases b<;>simp only at hr<;>first|exact hr.elim|skip
   case append =>
    split at hr
    ·rename_i a b t t' hat
     by_cases htt:t=t'
     case neg =>
      rw[iN htt]at hr
      obtain⟨hmt,v,H',g1,g2⟩:=AGK hr
      have hc3:Gx h o=3:=by simp only[Gx,heq,hmt,Bool.true_or];rfl
      exact⟨_,_,g1,.any hc3 λR' h'=>by simp only[Fh,heq,hat,iN htt];exact g2 R' h'⟩
     rw[iP htt]at hr
     split at hr
     ·rename_i e hu
      obtain⟨h1,h2,hr⟩:=hr
      have again:∀(rd:Bool) (H2:cj) (R':AV->cj->Prop) (xs:List AV),(o.dst.any h.mt.contains||o.dst.any h.tk.contains)=rd->S' P e rd H2 b=some xs->N9 P e (o.dst.any h.mt.contains) (o.dst.any h.pc.contains) H2 a xs R'->Fh P h o [a,b] H2 R':=by
       intro rd H2 R' xs hrd hs ha
       simp only[Fh,heq,hat,iP htt,hu,hrd,hs]
       exact⟨h1,h2,ha⟩
      split at hr
      ·rename_i xs hs
       by_cases hrd:(o.dst.any h.mt.contains||o.dst.any h.tk.contains)=true
       ·have hc3:Gx h o=3:=by simp only[Gx,heq,hrd];rfl
        obtain⟨g1,hr⟩:=hr
        split at hr
        ·rename_i hmt
         obtain⟨g2,g3,g4,g5⟩:=hr
         exact⟨_,_,g5,.any hc3 λR' h'=>again _ _ _ xs rfl hs ⟨g1,by rw[hmt];exact⟨g2,g3,g4,h'⟩⟩⟩
        ·rename_i hmt
         obtain⟨g2,g3,g4,g5,hr⟩:=hr
         split at hr
         ·rename_i cs ho
          obtain⟨g6,g7,g8⟩:=hr
          exact⟨_,_,g8,.any hc3 λR' h'=>again _ _ _ xs rfl hs ⟨g1,by rw[hmt];simp only[ho];exact⟨g2,g3,g4,g5,g6,g7,h'⟩⟩⟩
         ·exact hr.elim
        ·rename_i hmt
         obtain⟨g2,g3,g4,g5,hr⟩:=hr
         split at hr
         ·rename_i cs ho
          obtain⟨g6,g7,g8⟩:=hr
          exact⟨_,_,g8,.any hc3 λR' h'=>again _ _ _ xs rfl hs ⟨g1,by rw[hmt];simp only[ho];exact⟨g2,g3,g4,g5,g6,g7,h'⟩⟩⟩
         ·exact hr.elim
        ·rename_i hmt
         obtain⟨g2,g3,g4,g5⟩:=hr
         exact⟨_,_,g5,.any hc3 λR' h'=>again _ _ _ xs rfl hs ⟨g1,by rw[hmt];exact⟨g2,g3,g4,h'⟩⟩⟩
        ·exact hr.elim
       ·have hrd':(o.dst.any h.mt.contains||o.dst.any h.tk.contains)=false:=by simpa using hrd
        have hc0:Gx h o=0:=by simp only[Gx,heq,hrd'];rfl
        have hmt:o.dst.any h.mt.contains=false:=by
         rw[CC]at hrd';exact hrd'.1
        obtain⟨g1,hr⟩:=hr
        rw[hrd']at hs
        have hs2:∀H2,S' P e false H2 b=some xs:=λH2=>by
         unfold S' at hs ⊢
         split at hs
         ·exact hs
         ·split at hs
          ·rename_i h _;cases h
          ·cases hs
         ·cases hs
        split at hr
        ·rename_i hmt'
         obtain⟨g2,g3,g4,g5⟩:=hr
         exact⟨_,_,g5,.pure hc0 λH2 R' h'=>again _ _ _ xs hrd' (hs2 H2) ⟨g1,by rw[hmt'];exact⟨g2,g3,g4,h'⟩⟩⟩
        ·rename_i hmt'
         rw[hmt]at hmt';cases hmt'
        ·rename_i hmt'
         rw[hmt]at hmt';cases hmt'
        ·rename_i hmt'
         rw[hmt]at hmt';cases hmt'
        ·exact hr.elim
      ·exact hr.elim
     ·exact hr.elim
    ·exact hr.elim
   case cap =>
    split at hr
    ·split at hr
     ·rename_i hu
      exact⟨_,_,hr,.pure (by simp[Gx,heq]) λH2 R' h'=>by simp only[Fh,heq,hu];exact h'⟩
     ·exact hr.elim
    ·exact hr.elim
   case copy =>
    split at hr
    ·rename_i hat
     obtain⟨v,H',g1,g2⟩:=yW hr
     exact⟨_,_,g1,.any (by simp[Gx,heq]) λR' h'=>by simp only[Fh,heq,hat];exact g2 R' h'⟩
    ·exact hr.elim
   case clear =>
    split at hr
    ·rename_i hat
     split at hr
     ·rename_i hu
      split at hr
      ·rename_i ho
       obtain⟨z,h1,h2,h3,h4,h5⟩:=hr
       exact⟨_,_,h5,.any (by simp[Gx,heq]) λR' h'=>by simp only[Fh,heq,hat,hu,ho];exact⟨z,h1,h2,h3,h4,h'⟩⟩
      ·exact hr.elim
     ·exact hr.elim
    ·exact hr.elim
   case len =>
    split at hr
    ·split at hr
     ·rename_i hu
      exact⟨_,_,hr,.pure (by simp[Gx,heq]) λH2 R' h'=>by simp only[Fh,heq,hu];exact h'⟩
     ·rename_i hu
      exact⟨_,_,hr,.pure (by simp[Gx,heq]) λH2 R' h'=>by simp only[Fh,heq,hu];exact h'⟩
     ·rename_i hu
      exact⟨_,_,hr,.pure (by simp[Gx,heq]) λH2 R' h'=>by simp only[Fh,heq,hu];exact h'⟩
     ·rename_i hu
      exact⟨_,_,hr,.pure (by simp[Gx,heq]) λH2 R' h'=>by simp only[Fh,heq,hu];exact h'⟩
     ·rename_i hu
      exact⟨_,_,hr,.pure (by simp[Gx,heq]) λH2 R' h'=>by simp only[Fh,heq,hu];exact h'⟩
     ·exact hr.elim
    ·exact hr.elim
   case max =>
    split at hr
    ·exact⟨_,_,hr.2,.pure (by simp[Gx,heq]) λH2 R' h'=>by simp only[Fh,heq];exact⟨hr.1,h'⟩⟩
    ·exact hr.elim
   case min =>
    split at hr
    ·exact⟨_,_,hr.2,.pure (by simp[Gx,heq]) λH2 R' h'=>by simp only[Fh,heq];exact⟨hr.1,h'⟩⟩
    ·exact hr.elim
 ·exact hr.elim
end
end Go.AI
namespace Go.AI
def Je{cs xs:List AV}{off:Nat}(h:off+xs.length<=cs.length)(i:Nat):(splice cs off xs)[i]? =if off<=i/\i<off+xs.length then xs[i - off]? else cs[i]?:=by
 unfold splice
 have h1:(cs.take off).length=off:=Hy
 by_cases hi:i<off
 ·rw[iN FR,AE,AX FR,Bv hi]
 ·by_cases hj:i<off+xs.length
  ·rw[iP ⟨FR,hj⟩,AE,AN FR,h1,AX FR]
  ·rw[iN FR,AN Hy,AF,h1,A2]
   congr 1
   omega
def KS{cs xs:List AV}{off:Nat}(h:off+xs.length<=cs.length):(splice cs off xs).length=cs.length:=by
 unfold splice
 simp
 omega
def dX{cs xs ys:List AV}{f g:Nat}(hd:f+xs.length<=g\/g+ys.length<=f)(h1:f+xs.length<=cs.length)(h2:g+ys.length<=cs.length):
  splice (splice cs f xs) g ys=splice (splice cs g ys) f xs:=by
 apply A3
 intro i
 rw[Je (by rw[KS h1];exact h2),Je h1,Je (by rw[KS h2];exact h1),Je h2]
 by_cases ha:g<=i/\i<g+ys.length
 ·rw[iP ha,iN FR,iP ha]
 ·rw[iN ha]
  by_cases hb:f<=i/\i<f+xs.length
  ·rw[iP hb,iP hb]
  ·rw[iN hb,iN hb,iN ha]
def Yu(P:Program)(t:TypeId):Nat :=
 match P.underlying t with
 |some (.struct _)|some (.array _ _)=>P.cellsOf t
 |_=>1
def VZ{P:Program}{t:TypeId}{cs xs:List AV}{f g:Nat}(hd:f+Yu P t<=g\/g+xs.length<=f)(h2:g+xs.length<=cs.length):Ll P t (splice cs g xs) f=Ll P t cs f:=by
 have agg:∀k,(f+k<=g\/g+xs.length<=f)->((splice cs g xs).drop f).take k=(cs.drop f).take k:=by
  intro k hk
  apply A3
  intro i
  rw[Aj,Aj]
  split
  ·rw[A2,A2,Je h2,iN FR]
  ·rfl
 unfold Ll
 unfold Yu at hd
 split
 ·rename_i fs hu
  simp only[hu]at hd
  rw[KS h2,agg _ hd]
 ·rename_i n e hu
  simp only[hu]at hd
  rw[KS h2,agg _ hd]
 ·rename_i d hns hna hu
  have h1:f+1<=g\/g+xs.length<=f:=by
   have e:(match some d with|some (TypeDesc.struct _)=>P.cellsOf t|some (TypeDesc.array _ _)=>P.cellsOf t|_=>1)=1:=by
    cases d<;>first|rfl|exact absurd rfl (hns _)|exact absurd rfl (hna _ _)
   rw[hu]at hd
   rw[e]at hd
   exact hd
  rw[Je h2,iN FR]
 ·rfl
end Go.AI
