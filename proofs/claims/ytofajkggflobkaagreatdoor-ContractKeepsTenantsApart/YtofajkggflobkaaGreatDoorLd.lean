/- That the model's operations do what 'ares' says: appends and calls;all operations together. -/
import Derived.Test.YtofajkggflobkaaGreatDoorLa
import Derived.Maps.RangeRun
import Derived.Lib.AppendZerosOnto
import Derived.Lib.Overlaps
set_option linter.unusedSimpArgs false
set_option linter.unusedVariables false
set_option linter.defProp false
set_option maxHeartbeats 1000000
open Go.AI renaming CRel->ES,OptB->ET,VRel->EU,Hint->EV
open Array renaming empty_append->DZ,ext'->Bm,getElem?_append_left->Da,getElem?_eq_getElem->Aj,getElem?_eq_some_iff->Ao,getElem?_modify->D8,getElem?_push_lt->D6,getElem?_push_size->D7,getElem?_toList->Ae,map->EB,range->CU,size_append->Ci,toArray_toList->Bn,toList_append->C8,toList_filter->D9
open Bool renaming false_eq_true->Bw,not_eq_true'->BW,or_eq_false_iff->CE
open Int renaming toNat_natCast->Aa
open List renaming any_eq_false->Bl,append_assoc->AE,append_nil->Ai,count->CT,count_nil->Bd,eq_nil_of_length_eq_zero->CL,ext_getElem?->A5,filterMap_eq_nil_iff->B3,flatMap_cons->BJ,getElem?_append_left->AT,getElem?_append_right->AM,getElem?_drop->A1,getElem?_eq_getElem->AL,getElem?_eq_none->Az,getElem?_eq_some_iff->AC,getElem?_map->Ab,getElem?_of_mem->Af,getElem?_range->CV,getElem?_set->Aw,getElem?_set_ne->A6,getElem?_set_self->A3,getElem?_take->Ak,getElem?_take_of_lt->Bu,getElem?_toArray->Bf,getElem?_zip_eq_some->Bc,length_append->AF,length_cons->AD,length_map->Aq,length_nil->AH,length_pos_iff->Cj,length_set->Ap,map_append->Ar,map_cons->AS,map_drop->Dc,map_map->Bx,map_nil->Ah,map_take->EA,mem_filter->CW,mem_flatMap->Bh,mem_map->AP,mem_of_getElem?->AB,nil_append->AN,of_mem_zip->Cc,range->Am,replicate->A4,size_toArray->BV,take_append_drop->A9
open Nat renaming add_assoc->Ag,add_mul->A2,add_zero->BB,le_of_not_lt->CA,le_refl->AU,le_trans->AK,lt_irrefl->Bq,mod_lt->C7,mul_le_mul_right->BF,one_pos->D5,sub_self->AO,zero_add->AY
open Option renaming bind_eq_some_iff->CF,bind_some->Bb,getD_none->BG,isSome_iff_exists->Bg,map_eq_some_iff->C9,map_some->BU
open Or renaming inl->CG
open Go.Program renaming bytesOf->Ch,cellsOf->BI
open Go.Result renaming andThen->Bi,andThen_ok->AZ
open Go.Sem renaming run->Db,run_bind->AJ,run_pure->Ad
namespace Go.AI
section
variable {P:Program} {F:Nat->Prop} {G:Gh} {w:World} {H:FP} {R:AV->FP->Prop}
def Zv {t:Nat} {s:ByteArray} {u:Value} {rest:List AV} {urest:List Value} {lo hi mx:Option Value} {l h:Option Int} (hc:ES F G (.str s::rest) H (u::urest) w) (hu:P.underlying t=some .string)
  (hl:ET lo l) (hh:ET hi h) (hm:mx=none) (h0:0<=l.getD 0) (h1:l.getD 0<=h.getD s.size) (h2:h.getD s.size<=s.size)
  (hr:R (.str (s.extract (l.getD 0).toNat (h.getD s.size).toNat)) H) :
  Fx P ((do let r<-Instr.sliceAt t u lo hi mx;pure (Next.value r):Sem Next).run P w) (Fe F G w R):=by
 have hx:=hc.l.rel 0 _ _ rfl rfl
 cases hx
 subst hm
 have hb:=HG (P:=P) (isSlice:=false) (len:=s.size) (cap:=s.size) hl hh .none (λh=>by cases h) h0 h1 (by simpa using h2) sm w
 refine .value (u:=.string _) (w':=w) ?_ (Fe.plain hc hr (.str _) (FT rfl rfl _))
 simp only [Instr.sliceAt,Instr.slice,AJ,run_underlying hu,AZ]
 simp [hb]
def sT{t e ty:Nat}{own:Option Nat}{es:List AV}{u:Value}{ts:Array TypeId}(hc:ES F G [.sl own es] H [u] w)(ht:ts[0]? =some t)(hu:P.underlying t=some (.slice e))(hr:R (.int .i64 es.length) H):
  Fx P ((do let r<-Builtin.len_ ts ty #[u];pure (Next.value r):Sem Next).run P w) (Fe F G w R):=by
 have hx:=hc.l.rel 0 _ _ rfl rfl
 cases hx with
 | slnil=>exact .value (by simp [Builtin.len_,ht,run_underlying hu,goInt]) (Fe.plain hc hr (.int _ _) (FT rfl rfl _))
 | slany=>exact .value (by simp [Builtin.len_,ht,run_underlying hu,goInt]) (Fe.plain hc hr (.int _ _) (FT rfl rfl _))
 | sl=>exact .value (by simp [Builtin.len_,ht,run_underlying hu,goInt]) (Fe.plain hc hr (.int _ _) (FT rfl rfl _))
def l6{t e ty ob off len sz:Nat}{u:Value}{ts:Array TypeId}(hc:ES F G [.msl ob off len sz] H [u] w)(ht:ts[0]? =some t)(hu:P.underlying t=some (.slice e))(hr:R (.int .i64 len) H):
  Fx P ((do let r<-Builtin.len_ ts ty #[u];pure (Next.value r):Sem Next).run P w) (Fe F G w R):=by
 have hx:=hc.l.rel 0 _ _ rfl rfl
 cases hx
 exact .value (by simp [Builtin.len_,ht,run_underlying hu,goInt]) (Fe.plain hc hr (.int _ _) (FT rfl rfl _))
def l4{t ty:Nat}{s:ByteArray}{u:Value}{ts:Array TypeId}(hc:ES F G [.str s] H [u] w)(ht:ts[0]? =some t)(hu:P.underlying t=some .string)(hr:R (.int .i64 s.size) H):
  Fx P ((do let r<-Builtin.len_ ts ty #[u];pure (Next.value r):Sem Next).run P w) (Fe F G w R):=by
 have hx:=hc.l.rel 0 _ _ rfl rfl
 cases hx
 exact .value (by simp [Builtin.len_,ht,run_underlying hu,goInt]) (Fe.plain hc hr (.int _ _) (FT rfl rfl _))
def l7{t e ty n:Nat}{x:AV}{u:Value}{ts:Array TypeId}(hc:ES F G [x] H [u] w)(ht:ts[0]? =some t)(hu:P.underlying t=some (.array n e))(hr:R (.int .i64 n) H):
  Fx P ((do let r<-Builtin.len_ ts ty #[u];pure (Next.value r):Sem Next).run P w) (Fe F G w R) :=
 .value (by simp [Builtin.len_,ht,run_underlying hu,goInt]) (Fe.plain hc hr (.int _ _) (FT rfl rfl _))
def AIG{k:IntKind}{a b:Int}{u v:Value}{ts:Array TypeId}{ty:Nat}(hc:ES F G [.int k a,.int k b] H [u,v] w)(hr:R (.int k (if b<a then b else a)) H):
  Fx P ((do let r<-Builtin.min_ ts ty #[u,v];pure (Next.value r):Sem Next).run P w) (Fe F G w R):=by
 have hx:=hc.l.rel 0 _ _ rfl rfl
 have hy:=hc.l.rel 1 _ _ rfl rfl
 cases hx;cases hy
 exact .value (by simp [Builtin.min_,Builtin.min2]) (Fe.plain hc hr (.int _ _) (FT rfl rfl _))
def AIH{k:IntKind}{a b:Int}{u v:Value}{ts:Array TypeId}{ty:Nat}(hc:ES F G [.int k a,.int k b] H [u,v] w)(hr:R (.int k (if b>a then b else a)) H):
  Fx P ((do let r<-Builtin.max_ ts ty #[u,v];pure (Next.value r):Sem Next).run P w) (Fe F G w R):=by
 have hx:=hc.l.rel 0 _ _ rfl rfl
 have hy:=hc.l.rel 1 _ _ rfl rfl
 cases hx;cases hy
 exact .value (by simp [Builtin.max_,Builtin.max2]) (Fe.plain hc hr (.int _ _) (FT rfl rfl _))
def Src(G:Gh)(w:World)(n:Nat)(xs:List AV)(u:Value):Prop :=
 (u = .slice none 0 0/\xs=[]) \/ ∃ (a:Addr) (c:Nat) (news:List Value),u = .slice (some a) xs.length c/\news.length=xs.length*n/\(∀ (j:Nat) (v:Value),news[j]? =some v->w.cell? (a.add j)=some v) /\
   (∀ v∈news,v.oneCell'=true) /\ ∀ (i:Nat) (c:AV),(HU xs)[i]? =some c->c.scalar=true /\ ∃ v,news[i]? =some v/\EU G w c v
def L7{own:Option Nat}{xs:List AV}{n:Nat}(hn : ∀ x∈xs,x.cells.length=n){u:Value}(h:EU G w (.sl own xs) u):
  (u = .slice none 0 0/\xs=[]) \/ ∃ (a:Addr) (c:Nat) (news:List Value),u = .slice (some a) xs.length c/\news.length=xs.length*n/\(∀ (j:Nat) (v:Value),news[j]? =some v->w.cell? (a.add j)=some v) /\
   (∀ v∈news,v.oneCell'=true) /\ ∀ (i:Nat) (c:AV),(HU xs)[i]? =some c->c.scalar=true /\ ∃ v,news[i]? =some v/\EU G w c v:=by
 cases h with
 | slnil=>exact .inl ⟨rfl,rfl⟩
 | slany _ a=>exact .inr ⟨a,0,[],rfl,sm,λj v hv=>by simp at hv,λv hv=>by simp at hv,λi c hi=>by simp [HU] at hi⟩
 | sl _ _ sz b q cap f hsz hown hl hm hcs hus =>
  have hcl:=G6 hn
  have hget : ∀ i,i<xs.length*n -> ∃ c,(HU xs)[i]? =some c:=λi hi=>⟨_,AL FO⟩
  refine .inr ⟨⟨b,q,none⟩,cap,(Am (xs.length*n)).map f,rfl,sm,λj v hv=>?_,λv hv=>?_,λi c hi=>?_⟩
  ·have hj:j<xs.length*n:=by have:=(AC.1 hv).1;simpa using this
   simp [hj] at hv
   subst hv
   obtain ⟨c,hc⟩:=hget j hj
   rw [G9]
   exact (hcs j c hc).2.2
  ·obtain ⟨j,hj,rfl⟩:=AP.1 hv
   obtain ⟨c,hc⟩:=hget j (List.mem_range.1 hj)
   exact NX (hcs j c hc).1 (hus j c hc)
  ·have hi':i<xs.length*n:=by have:=(AC.1 hi).1;omega
   exact ⟨(hcs i c hi).1,f i,by simp [hi'],hus i c hi⟩
def Pa{olds news rest:List Value}(i:Nat)(h:i<olds.length+news.length):
  (olds.toArray++news.toArray++rest.toArray)[i]? =(olds++news)[i]?:=by
 have e:olds.toArray++news.toArray++rest.toArray=(olds++news++rest).toArray:=sm
 rw [e,Bf,AT (by simpa using h)]
def Yr {t e ty:Nat} {sv:AV} {es xs:List AV} {u v:Value} (hc:ES F G [.sl (some (P.cellsOf e)) es,sv] H [u,v] w) (hx:Src G w (P.cellsOf e) xs v) (hu:P.underlying t=some (.slice e)) (hpos:0<P.cellsOf e)
  (hxs : ∀ x∈xs,x.cells.length=P.cellsOf e) (hz:Gj P e=true) (hb:(es.length+xs.length)*P.bytesOf e<=140737488355328) (yc:es.length+xs.length<=9223372036854775807)
  (hr:R (.sl (some (P.cellsOf e)) (es++xs)) H) :
  Fx P ((do let r<-Builtin.append_ #[t,t] ty #[u,v];pure (Next.value r):Sem Next).run P w) (Fe F G w R):=by
 have hs:=hc.l.rel 0 _ _ rfl rfl
 unfold Gj at hz
 split at hz
 case h_2=>cases hz
 rename_i i hi
 split at hz
 case h_2=>cases hz
 rename_i z hz'
 have hcz:z.cells.size=i.size:=by simpa using hz
 have hce:P.cellsOf e=i.size:=by simp [BI,hi]
 have hbe:P.bytesOf e=i.bytes:=by simp [Ch,hi]
 rw [hbe] at hb
 have hes : ∀ x∈es,x.cells.length=P.cellsOf e:=by
  intro x hx'
  cases hs with
  | slnil=>simp at hx'
  | slany=>simp at hx'
  | sl _ _ sz b q cap f hsz hown _ _ _ _=>rw [hsz x hx',<- (hown _ rfl).1]
 have moved : ∀ (olds news:List Value) (old:Nat),olds.length=es.length*P.cellsOf e->news.length=xs.length*P.cellsOf e ->
   (∀ (i:Nat) (c:AV),(HU es)[i]? =some c->c.scalar=true /\ ∃ v,olds[i]? =some v/\EU G w c v) ->
   (∀ (i:Nat) (c:AV),(HU xs)[i]? =some c->c.scalar=true /\ ∃ v,news[i]? =some v/\EU G w c v) ->
   ∃ G',ES F G' [.sl (some (P.cellsOf e)) (es++xs)] H [.slice (some ⟨w.heap.size,0,none⟩) (es.length+xs.length) (grownCap w (es.length+xs.length) old e)]
    (w.drew.alloc (.cells (olds.toArray++news.toArray++Builtin.zeroCells z.cells (grownCap w (es.length+xs.length) old e - (es.length+xs.length))) e)) /\
    Ext F G w G' (w.drew.alloc (.cells (olds.toArray++news.toArray++Builtin.zeroCells z.cells (grownCap w (es.length+xs.length) old e - (es.length+xs.length))) e)):=by
  intro olds news old ho hn hoc hnc
  have hge:=grownCap_ge w (es.length+xs.length) old e
  have hcm:grownCap w (es.length+xs.length) old e<=maxLen:=grownCap_le_maxLen w _ old e (by unfold maxLen;omega)
  have hall : ∀ x∈es++xs,x.cells.length=P.cellsOf e:=λx hx=>by
   rcases List.mem_append.1 hx with h|h
   ·exact hes x h
   ·exact hxs x h
  have hd:=hc.draw
  have hce1:=G6 hes
  have hce2:=G6 hxs
  obtain ⟨G',h1,h2⟩:=hd.newList (es++xs) (P.cellsOf e) (grownCap w (es.length+xs.length) old e)
   (olds.toArray++news.toArray++Builtin.zeroCells z.cells (grownCap w (es.length+xs.length) old e - (es.length+xs.length))) e hpos hall (by simpa using hge) hcm (by
    simp only [Ci,BV,size_zeroCells,hcz,ho,hn,<- hce,<- A2]
    exact BF _ FO) (λi c hi'=>by
    rw [Kl] at hi'
    have hlt:=(AC.1 hi').1
    simp only [AF] at hlt
    have e0:=Pa (olds:=olds) (news:=news) (rest:=(Builtin.zeroCells z.cells (grownCap w (es.length+xs.length) old e - (es.length+xs.length))).toList) i FO
    rw [Bn] at e0
    rw [e0]
    by_cases hlo:i<(HU es).length
    ·rw [AT hlo] at hi'
     rw [AT FO]
     obtain ⟨s1,v,s2,s3⟩:=hoc i c hi'
     exact ⟨s1,v,s2,s3.keep (Hy (F:=F)).keeps⟩
    ·rw [AM FO] at hi'
     rw [AM FO,ho,<- hce1]
     obtain ⟨s1,v,s2,s3⟩:=hnc _ c hi'
     exact ⟨s1,v,s2,s3.keep (Hy (F:=F)).keeps⟩)
  simp only [AF] at h1
  exact ⟨G',h1,Hy.trans h2⟩
 have hlenle:es.length+xs.length<=9223372036854775807:=yc
 cases hs with
 | slnil own =>
  rcases hx with ⟨rfl,rfl⟩|⟨a,c,news,rfl,hnl,hnews,hone,hcell⟩
  ·refine .value (u:=.slice none 0 0) (w':=w) ?_ (Fe.plain (v:=.sl (some (P.cellsOf e)) []) hc (by simpa using hr) (.slnil _) (by simp [Gs,LE,AV.flat,AV.cells,IA,Value.cells,tok]))
   simp [Builtin.append_,run_underlying hu,sizeOf,typeInfo,hi,Builtin.lenOf,Builtin.firstCells]
  ·by_cases h0:xs=[]
   ·subst h0
    have:news=[]:=CL (by simpa using hnl)
    subst this
    refine .value (u:=.slice none 0 0) (w':=w) ?_ (Fe.plain (v:=.sl (some (P.cellsOf e)) []) hc (by simpa using hr) (.slnil _) (by simp [Gs,LE,AV.flat,AV.cells,IA,Value.cells,tok]))
    simp [Builtin.append_,run_underlying hu,sizeOf,typeInfo,hi,Builtin.lenOf,Builtin.firstCells,loadCells,loadCellsFrom]
   ·have hpos2:0<xs.length:=Cj.2 h0
    have hrun:=run_append_nil (P:=P) w t ty e i z hu hi hz' a xs.length c news (by rw [hnl,hce]) hnews hpos2 (by simp at yc;omega) (by simp at hb;omega)
    obtain ⟨G',g1,g2⟩:=moved [] news 0 sm hnl (λi c hi'=>by simp [HU] at hi') hcell
    simp only [AH,AY,DZ,AN] at g1 g2 hr
    have e0:(#[]:Array Value)++news.toArray=news.toArray:=sm
    exact .value (by rw [AJ,hrun];rfl) ⟨_,H,G',hr,by simpa using g1,by simpa using g2⟩
 | slany own ad =>
  rcases hx with ⟨rfl,rfl⟩|⟨a,c,news,rfl,hnl,hnews,hone,hcell⟩
  ·refine .value (u:=.slice (some ad) 0 0) (w':=w) ?_ (Fe.plain (v:=.sl (some (P.cellsOf e)) []) hc (by simpa using hr) (.slany _ _) (by simp [Gs,LE,AV.flat,AV.cells,IA,Value.cells,tok]))
   simp [Builtin.append_,run_underlying hu,sizeOf,typeInfo,hi,Builtin.lenOf,Builtin.firstCells,storeCells]
  ·by_cases h0:xs=[]
   ·subst h0
    have:news=[]:=CL (by simpa using hnl)
    subst this
    refine .value (u:=.slice (some ad) 0 0) (w':=w) ?_ (Fe.plain (v:=.sl (some (P.cellsOf e)) []) hc (by simpa using hr) (.slany _ _) (by simp [Gs,LE,AV.flat,AV.cells,IA,Value.cells,tok]))
    simp [Builtin.append_,run_underlying hu,sizeOf,typeInfo,hi,Builtin.lenOf,Builtin.firstCells,loadCells,loadCellsFrom,storeCells]
   ·have hpos2:0<xs.length:=Cj.2 h0
    have hrun:=run_append_grow (P:=P) w t ty e i z hu hi hz' ad 0 0 [] sm (λj v hv=>by simp at hv) a xs.length c news (by rw [hnl,hce]) hnews FO FO  (growslice_fits (by simpa using hpos2) (by simpa using hb))
    obtain ⟨G',g1,g2⟩:=moved [] news 0 sm hnl (λi c hi'=>by simp [HU] at hi') hcell
    simp only [AH,AY,DZ,AN] at g1 g2 hr
    exact .value (by rw [AJ,hrun];rfl) ⟨_,H,G',hr,by simpa using g1,by simpa using g2⟩
 | sl own es' sz b q cap f hsz hown hle hmx hcs hus =>
  have hs':EU G w (.sl (some (P.cellsOf e)) es) (.slice (some ⟨b,q,none⟩) es.length cap):=.sl _ es sz b q cap f hsz hown hle hmx hcs hus
  rcases hx with ⟨rfl,rfl⟩|⟨a,c,news,rfl,hnl,hnews,hone,hcell⟩
  ·refine .value (u:=.slice (some ⟨b,q,none⟩) es.length cap) (w':=w) ?_ (Fe.same (hc.get (i:=0) rfl rfl) (by simpa using hr))
   simp [Builtin.append_,run_underlying hu,sizeOf,typeInfo,hi,Builtin.lenOf,Builtin.firstCells,hle,storeCells]
  ·by_cases hroom:es.length+xs.length<=cap
   ·by_cases h0:xs=[]
    ·subst h0
     have:news=[]:=CL (by simpa using hnl)
     subst this
     refine .value (u:=.slice (some ⟨b,q,none⟩) es.length cap) (w':=w) ?_ (Fe.same (hc.get (i:=0) rfl rfl) (by simpa using hr))
     simp [Builtin.append_,run_underlying hu,sizeOf,typeInfo,hi,Builtin.lenOf,Builtin.firstCells,loadCells,loadCellsFrom,hle,storeCells]
    ·have hpos2:0<xs.length:=Cj.2 h0
     have htok:=hc.l.tok 0 _ _ rfl rfl (.sl (some (P.cellsOf e)) es,.slice (some ⟨b,q,none⟩) es.length cap) (by rw [QT _ _ _ _ _ _ rfl];simp)
     obtain ⟨_,_,C,E,hrow,_⟩:=htok FO
     replace hrow:w.heap[b]? =some (.cells C E (0,0)):=hrow
     obtain ⟨hfit,G',g1,g2⟩:=hc.appendIn (i0:=0) rfl rfl hroom FO hxs news hnl hcell hrow
     have hf:=run_firstCells_some (P:=P) w i.size xs.length a xs.length c news (by rw [hnl,hce]) hnews
     have hst:=run_storeCells_at P b (q+es.length*P.cellsOf e) E news 0 C w hrow FO hone
     simp only [BB] at hst
     refine .value ?_ ⟨_,H,G',hr,g1,g2⟩
     rw [hce] at hst
     rw [hce]
     simp [Builtin.append_,run_underlying hu,sizeOf,typeInfo,hi,Builtin.lenOf,hroom,hf,G9,hst]
   ·have hrun:=run_append_grow (P:=P) w t ty e i z hu hi hz' ⟨b,q,none⟩ es.length cap ((Am (es.length*P.cellsOf e)).map f) (by simp [hce]) (λj v hv=>by
      have hj:j<es.length*P.cellsOf e:=by have:=(AC.1 hv).1;simpa using this
      simp [hj] at hv
      subst hv
      have hcl:=G6 hes
      rw [G9]
      exact (hcs j _ (AL FO)).2.2) a xs.length c news (by rw [hnl,hce]) hnews FO FO  (growslice_fits FO hb)
    obtain ⟨G',g1,g2⟩:=moved ((Am (es.length*P.cellsOf e)).map f) news cap sm hnl (λi c hi'=>by
      have hi2:i<es.length*P.cellsOf e:=by have:=(AC.1 hi').1;rw [G6 hes] at this;exact this
      exact ⟨(hcs i c hi').1,f i,by simp [hi2],hus i c hi'⟩) hcell
    exact .value (by rw [AJ,hrun];rfl) ⟨_,H,G',hr,g1,g2⟩
def AHw{e:TypeId}{rd:Bool}{a b:AV}{u v:Value}{xs:List AV}(hc:ES F G [a,b] H [u,v] w)(hs:S5 P e rd H b=some xs)(hn : ∀ x∈xs,x.cells.length=P.cellsOf e):Src G w (P.cellsOf e) xs v:=by
 have hx:=hc.l.rel 1 _ _ rfl rfl
 unfold S5 at hs
 split at hs
 ·cases hs
  exact L7 hn hx
 ·rename_i ob off len sz
  split at hs
  ·rename_i cs ho
   split at hs
   ·rename_i hcond
    cases hs
    obtain ⟨hle,rfl,hag⟩:=hcond
    cases hx with
    | msl _ _ _ _ b cap hb hl hm hrow =>
     obtain ⟨C,E,hrow,hlC,hC⟩:=((hc.h.obj ob cs b ho hb).of_cells hrow.choose_spec.choose_spec.1).2
     have hsc : ∀ c∈(cs.drop off).map borrow1,c.scalar=true:=by
      intro c hcm
      obtain ⟨d,hd,rfl⟩:=AP.1 hcm
      obtain ⟨i,hi⟩:=Af hd
      rw [A1] at hi
      have hlt:=(AC.1 hi).1
      rw [GT]
      exact (hC _ d _ hi (Aj FO)).1
     obtain ⟨hcat,_⟩:=O2 (Rv P e) (P.cellsOf e) hag len ((cs.drop off).map borrow1) (by simp;omega) hsc
     have hcell : ∀ j,j<len*P.cellsOf e -> ∃ x,C[off+j]? =some x/\w.cell? ⟨b,off+j,none⟩=some x /\ ∀ c,cs[off+j]? =some c->c.scalar=true/\EU G w c x:=by
      intro j hj
      have hlt:off+j<C.size:=FO
      refine ⟨C[off+j],Aj hlt, ?_,λc hcj=>?_⟩
      ·rw [cell_of_row _ _ _ C E _ hrow];exact Aj hlt
      ·have:=hC _ c _ hcj (Aj hlt)
       exact ⟨this.1,this.2.1⟩
     refine .inr ⟨⟨b,off,none⟩,cap,((C.toList.drop off).take (len*P.cellsOf e)),by rw [Le],by rw [Le];simp;omega,λj x hx=>?_,λx hx=>?_,λi c hi=>?_⟩
     ·have hj:j<len*P.cellsOf e:=by have:=(AC.1 hx).1;simp at this;omega
      rw [Bu hj,A1,Ae] at hx
      obtain ⟨y,h1,h2,_⟩:=hcell j hj
      rw [h1] at hx;cases hx
      rw [G9];exact h2
     ·obtain ⟨j,hj'⟩:=Af hx
      have hj:j<len*P.cellsOf e:=by have:=(AC.1 hj').1;simp at this;omega
      rw [Bu hj,A1,Ae] at hj'
      obtain ⟨y,h1,_,h3⟩:=hcell j hj
      rw [h1] at hj';cases hj'
      obtain ⟨s1,s2⟩:=h3 _ (AL FO)
      exact NX s1 s2
     ·rw [hcat] at hi
      have hj:i<len*P.cellsOf e:=by have:=(AC.1 hi).1;simp at this;omega
      rw [Bu hj,Ab,A1] at hi
      obtain ⟨y,h1,_,h3⟩:=hcell i hj
      cases hd:cs[off+i]? with
      | none=>rw [hd] at hi;cases hi
      | some d =>
       rw [hd] at hi;cases hi
       obtain ⟨s1,s2⟩:=h3 d hd
       exact ⟨(GT d).trans s1,y,by rw [Bu hj,A1,Ae];exact h1,s2.borrow1⟩
   ·cases hs
  ·cases hs
 ·cases hs
end
end Go.AI
namespace Go.AI
section
variable {P:Program} {F:Nat->Prop} {G:Gh} {w:World} {H:FP} {R:AV->FP->Prop}
def KJ{α:Type}(l:List α): ∀ (n i:Nat),(A4 n l).flatten[i]? =if i<n*l.length then l[i % l.length]? else none
 | 0,i=>sm
 | n+1,i=>by
  rw [List.replicate_succ,List.flatten_cons,List.getElem?_append]
  by_cases h:i<l.length
  ·rw [iP h,iP (by rw [A2];omega),Nat.mod_eq_of_lt h]
  ·rw [iN h,KJ l n (i - l.length)]
   have e:(i - l.length) % l.length=i % l.length:=by
    rw [Nat.mod_eq_sub_mod (CA h)]
   rw [e]
   by_cases h2:i<(n+1)*l.length
   ·rw [iP h2,iP (by rw [A2] at h2;omega)]
   ·rw [iN h2,iN (by rw [A2] at h2;omega)]
def Zz {t e:Nat} {k k':IntKind} {n c:Int} {u v:Value} {z:AV} (h:ES F G [.int k n,.int k' c] H [u,v] w) (hu:P.underlying t=some (.slice e)) (hnc:n=c) (h0:0<=n) (hb:n*P.bytesOf e<=140737488355328)
  (hmax:n<=9223372036854775807) (hi:(P.info? e).isSome=true) (hz:Fi P e=some z) (hzl:z.cells.length=P.cellsOf e) (hpos:0<P.cellsOf e)
  (hr:R (.msl H.length 0 n.toNat (P.cellsOf e)) (H++[some (A4 n.toNat z.cells).flatten])) :
  Fx P ((do let r<-Instr.makeSlice t u v;pure (Next.value r):Sem Next).run P w) (Fe F G w R):=by
 have h1:=h.l.rel 0 _ _ rfl rfl
 have h2:=h.l.rel 1 _ _ rfl rfl
 subst hnc
 cases h1;cases h2
 obtain ⟨i,hi⟩:=Bg.1 hi
 obtain ⟨zv,hrun,hval,hc,ht⟩:=Mi hz
 have hc':=hc F G w
 have hzs:zv.cells.size=P.cellsOf e:=by have:=hc'.len;simp at this;omega
 obtain ⟨m,rfl⟩ : ∃ m:Nat,n=m:=⟨n.toNat,FO⟩
 have hw:IntKind.i64.wrap (m:Int)=m:=by
  rw [IntKind.wrap_i64];omega
 have hai : ∀ (k:IntKind) (n:Int),(asInt (.int k n)).run P w = .ok n w:=λk n=>by simp [asInt,asIntOf]
 have hbytes:P.bytesOf e=i.bytes:=by simp [Ch,hi]
 have hti:(typeInfo e).run P w = .ok i w:=by simp [typeInfo,hi]
 rw [hbytes] at hb
 have hb':(i.bytes:Int)*(m:Int)<=140737488355328:=by rw [Int.mul_comm];exact hb
 have hd1:decide ((i.bytes:Int)*(m:Int)>2^48)=false:=by
  rw [decide_eq_false_iff_not];omega
 have hd2:decide ((m:Int)<0)=false:=by
  rw [decide_eq_false_iff_not];omega
 have hd3:decide ((m:Int)>(m:Int))=false:=by
  rw [decide_eq_false_iff_not];omega
 have hs:(sizeOf e).run P w = .ok (P.cellsOf e) w:=Gd hpos w
 have hmake : ∃ C:Array Value,C=(CU (m*P.cellsOf e)).map (zv.cells[· % zv.cells.size]!)/\(Instr.makeSlice t (.int k m) (.int k' m)).run P w = .ok (.slice (some ⟨w.heap.size,0,none⟩) m m) (w.alloc (.cells C e)):=by
  refine ⟨_,rfl, ?_⟩
  simp only [Instr.makeSlice,AJ,run_underlying hu,AZ,hai,hti,hw,hd1,hd2,hd3,Bool.or_false,Bool.false_or,Bw,if_false,run_askRoom,hs,Aa]
  by_cases hm0:m*P.cellsOf e=0
  ·have hr0:CU 0=#[]:=rfl
   simp [hm0,newRow,hr0]
  ·simp [hm0,hrun,newRow]
 obtain ⟨C,hC,hrunM⟩:=hmake
 have hCs:C.size=m*P.cellsOf e:=by rw [hC];simp
 have hpair : ∀ (i:Nat) (c:AV) (v:Value),(A4 m z.cells).flatten[i]? =some c->C[i]? =some v->z.cells[i % z.cells.length]? =some c/\zv.cells.toList[i % z.cells.length]? =some v:=λi c v h1 h2=>by
  rw [KJ] at h1
  split at h1
  ·rename_i hlt
   refine ⟨h1, ?_⟩
   rw [hC] at h2
   rw [hzl] at hlt
   have:i % zv.cells.size<zv.cells.size:=C7 _ FO
   simp [hlt] at h2
   rw [Ae,hzl,<- hzs,Aj this,<- h2]
   simp [this]
  ·cases h1
 refine .value (u:=.slice (some ⟨w.heap.size,0,none⟩) m m) (w':=w.alloc (.cells C e)) (by rw [AJ,hrunM];rfl) ⟨_,_,_,hr, ?_,IQ h.h.fore _⟩
 simp only [Aa]
 have hfl:(A4 m z.cells).flatten.length=m*P.cellsOf e:=by simp [hzl]
 refine h.newObj (A4 m z.cells).flatten C e (by rw [hfl,hCs];exact AU _) (λi c x h1 h2=>?_) (λb=>?_) (.msl _ _ _ _ w.heap.size m ?_ (AU _) (by unfold maxLen;omega) ⟨C,e,heap_alloc_new w (.cells C e),FO⟩) (FT rfl rfl _)
 ·obtain ⟨g1,g2⟩:=hpair i c x h1 h2
  exact hc'.at_ _ c x g1 g2
 ·have hnil:((A4 m z.cells).flatten.zip C.toList).filterMap tok=[]:=by
   rw [B3]
   intro p hp
   obtain ⟨i,hi⟩:=Af hp
   rw [Bc] at hi
   obtain ⟨g1,g2⟩:=hpair i p.1 p.2 hi.1 (by rw [<- Ae];exact hi.2)
   have hmem:(p.1,p.2)∈z.cells.zip zv.cells.toList:=AB (i:=i % z.cells.length) (by rw [Bc];exact ⟨g1,g2⟩)
   exact B3.1 ht _ hmem
  rw [hnil];simp
 ·show (G.obs++[w.heap.size])[H.length]? =_
  rw [<- h.h.len,AM (AU _)]
  simp
def RP {t e len:Nat} {ps:List (Nat×Operand)} {ρ:Operand->Value} {vs:List AV} (h:ES F G vs H (ps.map λp=>ρ p.2) w) (hu:P.underlying t=some (.slice e)) (hpos:0<P.cellsOf e) (hsmall:len*P.cellsOf e<=16777216)
  (hidx:ps.map (·.1)=Am len) (hvs : ∀ v∈vs,v.isVal=true/\v.cells.length=P.cellsOf e) (hz:Gj P e=true) (hr:R (.msl H.length 0 len (P.cellsOf e)) (H++[some (HU (vs.map AV.borrow))])) :
  Fx P ((do let r<-Instr.buildSlice t len (ps.map λp=>(p.1,ρ p.2)).toArray;pure (Next.value r):Sem Next).run P w) (Fe F G w R):=by
 have hpl:ps.length=len:=by have:=congrArg List.length hidx;simpa using this
 have hvl:vs.length=len:=by have:=h.l.len;simp at this;omega
 have hus : ∀ u∈ps.map (λp=>ρ p.2),u.cells.size=P.cellsOf e:=by
  intro u hu'
  obtain ⟨i,hi⟩:=Af hu'
  have hlt:=(AC.1 hi).1
  simp at hlt
  have hv:vs[i]? =some (vs[i]' FO):=AL _
  obtain ⟨g1,g2⟩:=hvs _ (AB hv)
  have:=(Jk g1 (h.l.rel i _ u hv hi)).2.2
  omega
 unfold Gj at hz
 split at hz
 ·rename_i i hi
  split at hz
  ·rename_i z hz'
   have key : ∀ zc:Array Value,Instr.fill (λi=>some (i*P.cellsOf e,P.cellsOf e)) ((CU (len*P.cellsOf e)).map (zc[· % zc.size]!)) (ps.map λp=>(p.1,ρ p.2)) =
     some ((ps.map λp=>ρ p.2).flatMap λu=>u.cells.toList).toArray:=λzc=>by
    have hfill:=WE (P.cellsOf e) (ps.map λp=>ρ p.2) 0 ((CU (len*P.cellsOf e)).map (zc[· % zc.size]!)) hus (by simp [hpl])
    rw [show (List.range' 0 (ps.map λp=>ρ p.2).length)=ps.map (·.1) by rw [hidx,List.range_eq_range'];simp [hpl],PO] at hfill
    simpa using hfill
   have hcc:=S1 vs _ h.l λv hv=>(hvs v hv).1
   have hrun:(Instr.buildSlice t len (ps.map λp=>(p.1,ρ p.2)).toArray).run P w = .ok (.slice (some ⟨w.heap.size,0,none⟩) len len) (w.alloc (.cells ((ps.map λp=>ρ p.2).flatMap λu=>u.cells.toList).toArray e)):=by
    have hs:(sizeOf e).run P w = .ok (P.cellsOf e) w:=Gd hpos w
    simp only [Instr.buildSlice,AJ,run_underlying hu,AZ,hs,Sem.run_ite]
    rw [iN FO]
    simp only [Ad,AZ]
    by_cases h0:len*P.cellsOf e=0
    ·simp only [iP h0,key]
     simp [newRow]
    ·simp only [iN h0,zeroValue,typeInfo,AJ,run_program,AZ,hi,hz',Ad,key]
     simp [newRow]
   have hul:((ps.map λp=>ρ p.2).flatMap λu=>u.cells.toList).length=len*P.cellsOf e:=by
    have:=hcc.len
    rw [G6 (n:=P.cellsOf e) λx hx=>by
     obtain ⟨v,hv,rfl⟩:=AP.1 hx
     rw [Kk];exact (hvs v hv).2] at this
    simp only [Aq,hvl] at this
    omega
   refine .value (by rw [AJ,hrun];rfl) ⟨_,_,_,hr, ?_,IQ h.h.fore _⟩
   refine h.newObj (HU (vs.map AV.borrow)) _ e (by have:=hcc.len;simp;simp at this;omega) (λi c x h1 h2=>hcc.at_ i c x h1 (by simpa using h2)) (λb=>?_) (.msl _ _ _ _ w.heap.size len ?_ (AU _) (by
      have:len<=len*P.cellsOf e:=Nat.le_mul_of_pos_right _ hpos
      unfold maxLen;omega) ⟨_,e,heap_alloc_new w _,by rw [BV,hul];omega⟩) (FT rfl rfl _)
   ·have hnil:((HU (vs.map AV.borrow)).zip ((ps.map λp=>ρ p.2).flatMap λu=>u.cells.toList)).filterMap tok=[]:=by
     rw [B3]
     intro p hp
     have hm:=(Cc hp).1
     simp only [HU,Bh,AP] at hm
     obtain ⟨x,⟨v,hv,rfl⟩,hm⟩:=hm
     have hval:=(hvs v hv).1
     have e1:v.borrow=borrow0 v:=by cases v<;>first|rfl|cases hval
     rw [e1,QC] at hm
     obtain ⟨c,_,hc⟩:=AP.1 hm
     obtain ⟨p1,p2⟩:=p
     simp only at hc
     rw [<- hc]
     exact Gc c p2
    rw [hnil];simp
   ·show (G.obs++[w.heap.size])[H.length]? =_
    rw [<- h.h.len,AM (AU _)]
    simp
  ·cases hz
 ·cases hz
def Yj(f:Value->ByteArray->Sem (ForInStep ByteArray))(hf : ∀ n s,f (.int .u8 n) s=pure (.yield (s.push (UInt8.ofNat n.toNat)))): ∀ (l:List Value) (s:ByteArray),(∀ v∈l,∃ n,v = .int .u8 n) ->
  (forIn l s f:Sem ByteArray).run P w = .ok ⟨s.data++(l.map fun | .int _ n=>UInt8.ofNat n.toNat|_=>0).toArray⟩ w
 | [],s,_=>sm
 | v::l,s,h=>by
  obtain ⟨n,rfl⟩:=h v sm
  rw [List.forIn_cons,AJ,hf]
  simp only [Ad,AZ]
  rw [Yj f hf l _ λx hx=>h x (by simp [hx])]
  congr 2
  simp [ByteArray.push]
def Sf {src dst el:TypeId} {own:Option Nat} {es:List AV} {x:Value} (h:ES F G [.sl own es] H [x] w) (hs:P.underlying src=some (.slice el)) (hd:P.underlying dst=some .string) (he:P.underlying el=some (.int .u8))
  (hb : ∀ x∈es,Ol x=true) (hr:R (.str (Pj es)) H) :
  Fx P ((do let v<-convert src dst x;pure (Next.value v):Sem Next).run P w) (Fe F G w R):=by
 have hx:=h.l.rel 0 _ _ rfl rfl
 have hlen : ∀ x∈es,x.cells.length=1:=λx hm=>by
  have:=hb x hm
  unfold Ol at this
  split at this
  ·rfl
  ·cases this
 have hout : ∀ r:ByteArray,(convert src dst x).run P w = .ok (.string r) w->r=Pj es->Fx P ((do let v<-convert src dst x;pure (Next.value v):Sem Next).run P w) (Fe F G w R):=λr hrun e=>by
  subst e
  exact .value (by rw [AJ,hrun];rfl) (Fe.plain h hr (.str _) (FT rfl rfl _))
 have hcat:HU es=es:=by
  have : ∀ (es:List AV),(∀ x∈es,Ol x=true)->HU es=es:=by
   intro es
   induction es with
   | nil=>intro _;rfl
   | cons a as ih =>
    intro hb
    have h1:=hb a sm
    have h2:=ih λx hx=>hb x (by simp [hx])
    unfold Ol at h1
    split at h1
    ·simp only [HU,BJ] at h2 ⊢
     rw [h2];rfl
    ·cases h1
  exact this es hb
 rcases L7 hlen hx with ⟨rfl,rfl⟩|⟨a,c,news,rfl,hl,hcell,_,hrel⟩
 ·exact hout .empty (by simp [convert,run_underlying hs,run_underlying hd,run_underlying he,Conv.bytesToString]) rfl
 ·rw [hcat] at hrel
  rw [Nat.mul_one] at hl
  have hnews : ∀ (i:Nat) (v:Value),news[i]? =some v -> ∃ n,es[i]? =some (.int .u8 n)/\v = .int .u8 n:=λi v hv=>by
   have hi:i<es.length:=by have:=(AC.1 hv).1;omega
   have h1:=AL hi
   obtain ⟨_,v',hv',hr'⟩:=hrel i _ h1
   have h2:=hb _ (AB h1)
   generalize es[i]=e0 at h1 hr' h2
   unfold Ol at h2
   split at h2
   ·rw [hv] at hv'
    cases hv'
    cases hr'
    exact ⟨_,h1,rfl⟩
   ·cases h2
  refine hout ⟨(news.map fun | .int _ n=>UInt8.ofNat n.toNat|_=>0).toArray⟩ ?_ ?_
  ·have hld:=run_loadCells_list (P:=P) w a news hcell
   rw [hl] at hld
   simp only [convert,AJ,run_underlying hs,run_underlying hd,run_underlying he,AZ,Conv.bytesToString,hld]
   rw [<- Array.forIn_toList]
   simp only []
   rw [Yj (P:=P) (w:=w) _ (λ_ _=>rfl) news .empty λv hv=>by
    obtain ⟨i,hi⟩:=Af hv
    obtain ⟨n,_,hn⟩:=hnews i v hi
    exact ⟨n,hn⟩]
   simp
  ·unfold Pj
   congr 2
   apply A5
   intro i
   rw [Ab,Ab]
   cases hv:news[i]? with
   | none =>
    rw [Az (by have:=List.getElem?_eq_none_iff.1 hv;omega)]
    rfl
   | some v =>
    obtain ⟨n,hn,rfl⟩:=hnews i v hv
    rw [hn];rfl
end
end Go.AI
namespace Go.AI
section
variable {P:Program} {F:Nat->Prop} {G:Gh} {w:World} {H:FP} {vals:List AV} {us:List Value} {R:AV->FP->Prop}
def VRel.msl_cells{ob off len sz b:Nat}{u:Value}(hv:EU G w (.msl ob off len sz) u)(hb:G.obs[ob]? =some b): ∃ (C:Array Value) (E:TypeId),w.heap[b]? =some (.cells C E (0,0)):=by
 generalize hx:AV.msl ob off len sz=x at hv
 cases hv<;>cases hx
 rename_i b0 cap hcap hob hlcap hcc
 rw [hb] at hob
 cases hob
 obtain ⟨C,E,h1,_⟩:=hcc
 exact ⟨C,E,h1⟩
def CRel.freeze(h:ES F G vals H us w){ob b:Nat}{cs:List AV}(ho:H[ob]? =some (some cs))(hb:G.obs[ob]? =some b)(hbc : ∃ (C:Array Value) (E:TypeId),w.heap[b]? =some (.cells C E (0,0))):
  ES F (G.setKind b .imm) vals (H.set ob none) us w/\Ext F G w (G.setKind b .imm) w:=by
 have hobj:=h.h.obj ob cs b ho hb
 have hkd:G.kind b = .obj:=(hobj.of_cells hbc.choose_spec.choose_spec).1
 have hk:Keeps G w (G.setKind b .imm) w:=⟨λ_ _ h=>h,λ_ C _ h=>⟨C,h,rfl⟩,λb' hb' hs=>⟨hb',G.kind_set_ne .imm (λe=>by rw [e,hkd] at hs;cases hs)⟩,λb' o v hs hc=>⟨by
  by_cases e:b'=b
  ·subst e
   unfold Gh.safe at hs
   rw [hkd] at hs
   exact hs.elim
  ·exact (G.safe_set_ne .imm e).2 hs,hc⟩⟩
 have hE : ∀ F':Nat->Prop,(∀ b',F' b'->b'≠b)->Ext F' G w (G.setKind b .imm) w:=λF' hF=>⟨AU _,hk,λb' hb'=>G.kind_set_ne .imm (hF b' hb'),λ_ _=>rfl,⟨rfl,rfl,rfl⟩⟩
 have hbuf : ∀ {p:AV×Value} {b':Nat},GD F G w p->tok p=some b'->b'≠b:=λ{p b'} ht hb' e=>by
  obtain ⟨_,⟨q,hq⟩,_⟩:=ht.of_tok hb'
  rw [e,hkd] at hq
  cases hq
 refine ⟨⟨h.l.ext (F':=λb'=>b'≠b) (hE _ λ_ h=>h) (λb' hp=>?_),⟨by rw [Ap];exact h.h.len,λo cs2 b2 h1 h2=>?_,λo o' cs2 cs3 b2 h1 h2 h3 h4=>?_,h.h.fore,h.h.glob.keep hk⟩,λb'=>?_⟩,hE F λb' hF e=>hobj.own (e▸hF)⟩
 ·obtain ⟨_,⟨q,hq⟩,_⟩:=h.l.tok_of_pos hp
  intro e
  rw [e,hkd] at hq
  cases hq
 ·have hne:o≠ob:=by
   rintro rfl
   rw [A3 (by exact (AC.1 ho).1)] at h1
   cases h1
  rw [A6 (Ne.symm hne)] at h1
  have hbne:b2≠b:=by
   rintro rfl
   exact hne (h.h.inj _ _ _ _ _ h1 ho h2 hb)
  exact (h.h.obj o cs2 b2 h1 h2).keep hk (h.h.obj o cs2 b2 h1 h2).own (G.kind_set_ne .imm hbne) rfl λC E _ i c v hc hv s3=>s3.keep λb' ht=>⟨(s3.of_tok ht).1,G.kind_set_ne .imm (hbuf s3 ht),rfl⟩
 ·have e1:o≠ob:=by
   rintro rfl
   rw [A3 (by exact (AC.1 ho).1)] at h1
   cases h1
  have e2:o'≠ob:=by
   rintro rfl
   rw [A3 (by exact (AC.1 ho).1)] at h2
   cases h2
  rw [A6 (Ne.symm e1)] at h1
  rw [A6 (Ne.symm e2)] at h2
  exact h.h.inj _ _ _ _ _ h1 h2 h3 h4
 ·have hle:IJ (G.setKind b .imm) (H.set ob none) w b'<=IJ G H w b':=by
   have hd:=(AC.1 ho).1
   have hs:=JK (n:=H.length) (f:=λo=>(Gp (G.setKind b .imm) (H.set ob none) w o).count b') (g:=λo=>(Gp G H w o).count b') hd λo ho' hne=>by
    unfold Gp
    rw [A6 (Ne.symm hne)]
    rfl
   have hz:(Gp (G.setKind b .imm) (H.set ob none) w ob)=[]:=by
    unfold Gp
    rw [A3 hd]
   simp only [hz,Bd,BB] at hs
   unfold IJ
   rw [Ap]
   omega
  have:=h.cnt b'
  omega
def CRel.moveObj(h:ES F G vals H us w){ob b:Nat}{cs:List AV}(ho:H[ob]? =some (some cs))(hb:G.obs[ob]? =some b):
  ES F { G with obs:=G.obs++[b] } vals (H.set ob none++[some cs]) us w/\Ext F G w { G with obs:=G.obs++[b] } w:=by
 have hlen:=h.h.len
 have hob:=(AC.1 ho).1
 have hk:Keeps G w { G with obs:=G.obs++[b] } w:=⟨λo x hx=>K7 hx,λ_ C _ hC=>⟨C,hC,rfl⟩,λ_ hb' _=>⟨hb',rfl⟩,λb' o v hs hc=>⟨hs,hc⟩⟩
 have he:Ext F G w { G with obs:=G.obs++[b] } w:=⟨AU _,hk,λ_ _=>rfl,λ_ _=>rfl,⟨rfl,rfl,rfl⟩⟩
 have hat : ∀ (o b':Nat) (cs':List AV),(H.set ob none++[some cs])[o]? =some (some cs')->(G.obs++[b])[o]? =some b' ->
   (o≠ob/\o<H.length/\H[o]? =some (some cs')/\G.obs[o]? =some b')\/(o=H.length/\cs'=cs/\b'=b):=by
  intro o b' cs' h1 h2
  have hlt:=(AC.1 h1).1
  simp only [AF,Ap,AD,AH] at hlt
  by_cases hol:o<H.length
  ·rw [AT (by simpa using hol)] at h1
   rw [AT FO] at h2
   have hne:o≠ob:=by
    rintro rfl
    rw [A3 hob] at h1;cases h1
   rw [A6 (Ne.symm hne)] at h1
   exact .inl ⟨hne,hol,h1,h2⟩
  ·have:o=H.length:=FO
   subst this
   rw [AM sm] at h1
   rw [AM FO,hlen] at h2
   simp only [Ap,AO,List.getElem?_cons_zero,Option.some.injEq] at h1 h2
   exact .inr ⟨rfl,h1.symm,h2.symm⟩
 refine ⟨⟨⟨h.l.len,λi a u h1 h2=>(h.l.rel i a u h1 h2).keep hk,λi a u h1 h2 p hp=>h.l.tok i a u h1 h2 p hp⟩,
  ⟨by simp [hlen],λo cs' b' h1 h2=>?_,λo o' cs1 cs2 b' h1 h2 h3 h4=>?_,h.h.fore,h.h.glob.same rfl⟩,λx=>?_⟩,he⟩
 ·have lift2 : ∀ (cs:List AV) (b2:Nat),ORel F G w cs b2->ORel F { G with obs:=G.obs++[b] } w cs b2:=λcs b2 hor=>by
   exact hor.keep hk hor.own rfl rfl λ_ _ _ _ _ _ _ _ s3=>s3
  rcases hat o b' cs' h1 h2 with ⟨_,_,g1,g2⟩|⟨rfl,rfl,rfl⟩
  ·exact lift2 _ _ (h.h.obj o cs' b' g1 g2)
  ·exact lift2 _ _ (h.h.obj ob _ _ ho hb)
 ·rcases hat o b' cs1 h1 h3 with ⟨n1,l1,g1,g2⟩|⟨rfl,_,rfl⟩<;>rcases hat o' _ cs2 h2 h4 with ⟨n2,l2,g3,g4⟩|⟨rfl,_,hb2⟩
  ·exact h.h.inj _ _ _ _ _ g1 g3 g2 g4
  ·subst hb2;exact absurd (h.h.inj _ _ _ _ _ g1 ho g2 hb) n1
  ·exact absurd (h.h.inj _ _ _ _ _ g3 ho g4 hb) n2
  ·rfl
 ·have h0:=h.cnt x
  have e:IJ { G with obs:=G.obs++[b] } (H.set ob none++[some cs]) w x=IJ G H w x:=by
   unfold IJ
   simp only [AF,Ap,AD,AH,AY,List.range_succ,Ar,List.sum_append,AS,Ah,List.sum_cons,List.sum_nil,BB]
   have enew:Gp { G with obs:=G.obs++[b] } (H.set ob none++[some cs]) w H.length=Gp G H w ob:=by
    unfold Gp
    rw [AM sm,AM FO,hlen,ho,hb]
    simp
   have eold:Gp { G with obs:=G.obs++[b] } (H.set ob none++[some cs]) w ob=[]:=by
    unfold Gp
    rw [AT (by simpa using hob),A3 hob]
   have hone:=JK (n:=H.length) (f:=λo=>(Gp { G with obs:=G.obs++[b] } (H.set ob none++[some cs]) w o).count x) (g:=λo=>(Gp G H w o).count x) hob λo ho' hne=>by
    show CT x _=CT x _
    congr 1
    unfold Gp
    rw [AT (by simpa using ho'),AT FO,A6 (Ne.symm hne)]
   simp only [eold,Bd,BB] at hone
   rw [enew]
   exact hone
  rw [e];exact h0
def I0(cs:List AV)(vs:List Value):(((cs.map borrow1).zip vs).filterMap tok)=[]:=by
 rw [B3]
 intro p hp
 have hm:=(Cc (show (p.1,p.2)∈(cs.map borrow1).zip vs from hp)).1
 obtain ⟨d,_,hd⟩:=AP.1 hm
 obtain ⟨p1,p2⟩:=p
 simp only at hd
 subst hd
 exact Gc d p2
def P6 {t e ty ob len sz:Nat} {sv:AV} {xs cs:List AV} {u v:Value} (hc:ES F G [.msl ob 0 len sz,sv] H [u,v] w) (hx:Src G w (P.cellsOf e) xs v) (ho:H[ob]? =some (some cs)) (hu:P.underlying t=some (.slice e)) (hpos:0<P.cellsOf e)
  (hsz:sz=P.cellsOf e) (hcl0:cs.length=len*sz) (hcb:cs.map borrow1=cs) (hxs : ∀ x∈xs,x.cells.length=P.cellsOf e) (hz:Gj P e=true) (hb:(len+xs.length)*P.bytesOf e<=140737488355328) (yc:len+xs.length<=9223372036854775807)
  (hr:R (.msl H.length 0 (len+xs.length) (P.cellsOf e)) (H.set ob none++[some (cs++(HU xs).map borrow1)])) :
  Fx P ((do let r<-Builtin.append_ #[t,t] ty #[u,v];pure (Next.value r):Sem Next).run P w) (Fe F G w R):=by
 subst hsz
 have hs:=hc.l.rel 0 _ _ rfl rfl
 unfold Gj at hz
 split at hz
 case h_2=>cases hz
 rename_i i hi
 split at hz
 case h_2=>cases hz
 rename_i z hz'
 have hcz:z.cells.size=i.size:=by simpa using hz
 have hce:P.cellsOf e=i.size:=by simp [BI,hi]
 have hbe:P.bytesOf e=i.bytes:=by simp [Ch,hi]
 rw [hbe] at hb
 have hcl:=G6 hxs
 have hlen:=hc.h.len
 have hcs':cs++(HU xs).map borrow1=(cs++HU xs).map borrow1:=by rw [Ar,hcb]
 cases hs with
 | msl _ _ _ _ b cap hob hl hm hrow0 =>
  obtain ⟨C0,E0,hrow0,hfit0⟩:=hrow0
  obtain ⟨C,E,hrow,hCs,hC⟩:=hc.h.at_obj ho hob ⟨C0,E0,hrow0⟩
  have hfit:0+cap*P.cellsOf e<=C.size:=by
   rw [hrow0] at hrow
   cases hrow
   exact hfit0
  have same:xs=[]->Fe F G w R (.slice (some ⟨b,0,none⟩) len cap) w:=by
   intro h0
   subst h0
   obtain ⟨h1,h2⟩:=hc.moveObj ho hob
   refine ⟨_,_,_,by simpa [HU] using hr, ?_,h2⟩
   have hnew:EU { G with obs:=G.obs++[b] } w (.msl H.length 0 len (P.cellsOf e)) (.slice (some ⟨b,0,none⟩) len cap) :=
    .msl _ _ _ _ b cap (by show (G.obs++[b])[H.length]? =some b;rw [AM FO,hlen];simp) hl hm ⟨C,E,hrow,hfit⟩
   exact (h1.one hnew (Ff (FT rfl rfl _) _ _ _) λb'=>by rw [FT rfl rfl];simp)
  rcases hx with ⟨rfl,rfl⟩|⟨a,c,news,rfl,hnl,hnews,hone,hcell⟩
  ·refine .value (u:=.slice (some ⟨b,0,none⟩) len cap) (w':=w) ?_ (same rfl)
   simp [Builtin.append_,run_underlying hu,sizeOf,typeInfo,hi,Builtin.lenOf,Builtin.firstCells,hl,storeCells]
  ·by_cases h0:xs=[]
   ·subst h0
    have:news=[]:=CL (by simpa using hnl)
    subst this
    refine .value (u:=.slice (some ⟨b,0,none⟩) len cap) (w':=w) ?_ (same rfl)
    simp [Builtin.append_,run_underlying hu,sizeOf,typeInfo,hi,Builtin.lenOf,Builtin.firstCells,loadCells,loadCellsFrom,hl,storeCells]
   ·have hpos2:0<xs.length:=Cj.2 h0
    have hget : ∀ (i:Nat) (d:AV),((HU xs).map borrow1)[i]? =some d -> ∃ c v,d=borrow1 c/\c.scalar=true/\news[i]? =some v/\EU G w c v:=by
     intro i d hd
     rw [Ab] at hd
     cases hci:(HU xs)[i]? with
     | none=>rw [hci] at hd;cases hd
     | some c =>
      rw [hci] at hd
      cases hd
      obtain ⟨s1,v,s2,s3⟩:=hcell i c hci
      exact ⟨c,v,rfl,s1,s2,s3⟩
    have hold : ∀ (i:Nat) (d:AV) (x:Value),cs[i]? =some d->C[i]? =some x->d.scalar=true/\EU G w d x/\d=borrow1 d:=by
     intro i d x hd hx'
     have hi':=(AC.1 hd).1
     obtain ⟨g1,g2,_⟩:=hC.at_ i d x hd (by rw [Ak,iP hi',Ae];exact hx')
     refine ⟨g1,g2, ?_⟩
     have:(cs.map borrow1)[i]? =some (borrow1 d):=by rw [Ab,hd];rfl
     rw [hcb,hd] at this
     exact Option.some.inj this
    by_cases hroom:len+xs.length<=cap
    ·have hf:=run_firstCells_some (P:=P) w i.size xs.length a xs.length c news (by rw [hnl,hce]) hnews
     have hfit2:len*P.cellsOf e+news.length<=C.size:=by
      rw [hnl,<- A2]
      have:=BF (P.cellsOf e) hroom
      omega
     have hst:=run_storeCells_at P b (len*P.cellsOf e) E news 0 C w hrow FO hone
     simp only [BB] at hst
     let C':Array Value:=(C.toList.take (len*P.cellsOf e)++news++C.toList.drop (len*P.cellsOf e+news.length)).toArray
     have hC':C'=(C.toList.take (len*P.cellsOf e)++news++C.toList.drop (len*P.cellsOf e+news.length)).toArray:=rfl
     have htl:(C.toList.take (len*P.cellsOf e)).length=len*P.cellsOf e:=by simp;omega
     have hset:=hc.setObj ho hob hrow (C':=C') (by rw [hC'];simp;omega) (cs':=cs++(HU xs).map borrow1) (by rw [hC'];simp;omega)
      (λi d x hd hx'=>by
       rw [hC',Bf] at hx'
       by_cases hlt:i<cs.length
       ·rw [AT hlt] at hd
        rw [AE,AT FO,Ak,iP FO,Ae] at hx'
        obtain ⟨g1,g2,g3⟩:=hold i d x hd hx'
        exact ⟨g1,g2,F7 (by rw [g3];exact Gc d _)⟩
       ·rw [AM FO] at hd
        obtain ⟨c,v,rfl,s1,s2,s3⟩:=hget _ d hd
        have hlt2:=(AC.1 s2).1
        rw [AE,AM FO,htl,<- hcl0,AT hlt2,s2] at hx'
        cases hx'
        exact ⟨(GT c).trans s1,s3.borrow1,F7 (Gc c _)⟩) (vs:=[]) (us':=[]) (.nil F G w) (λx=>by rw [hcs',I0];simp [GS])
     have hlenset:(H.set ob (some (cs++(HU xs).map borrow1)))[ob]? =some (some (cs++(HU xs).map borrow1)):=A3 (AC.1 ho).1
     obtain ⟨h1,h2⟩:=hset.1.moveObj hlenset hob
     refine .value (u:=.slice (some ⟨b,0,none⟩) (len+xs.length) cap) (w':=w.setRow b C') ?_ ⟨_,_,_,hr, ?_,hset.2.trans h2⟩
     ·rw [hce] at hst
      simp [Builtin.append_,run_underlying hu,sizeOf,typeInfo,hi,Builtin.lenOf,hroom,hf,G9,hst,hC',hce]
     ·rw [List.set_set] at h1
      have hrow':(w.setRow b C').heap[b]? =some (.cells C' E (0,0)):=setRow_heap w b C _ E _ hrow
      have hnew:EU { G with obs:=G.obs++[b] } (w.setRow b C') (.msl H.length 0 (len+xs.length) (P.cellsOf e)) (.slice (some ⟨b,0,none⟩) (len+xs.length) cap) :=
       .msl _ _ _ _ b cap (by show (G.obs++[b])[H.length]? =some b;rw [AM FO,hlen];simp) hroom hm ⟨_,E,hrow',by rw [hC'];simp;omega⟩
      exact (h1.one hnew (Ff (FT rfl rfl _) _ _ _) λb'=>by rw [FT rfl rfl];simp)
    ·let olds:List Value:=C.toList.take (len*P.cellsOf e)
     have holds:olds=C.toList.take (len*P.cellsOf e):=rfl
     have hol:olds.length=len*P.cellsOf e:=by rw [holds];simp;omega
     have hrun:=run_append_grow (P:=P) (ty:=ty) w t e i z hu hi hz' ⟨b,0,none⟩ len cap olds (by rw [hol,hce]) (λj v hv=>by
       rw [G9,AY,cell_of_row _ _ j C E _ hrow]
       rw [holds,Ak] at hv
       split at hv
       ·rwa [Ae] at hv
       ·cases hv) a xs.length c news (by rw [hnl,hce]) hnews FO FO  (growslice_fits FO (by simpa using hb))
     obtain ⟨h1,h2⟩:=hc.freeze ho hob ⟨_,_,hrow⟩
     have hd:=h1.draw
     have hge:=grownCap_ge w (len+xs.length) cap e
     have hcm:grownCap w (len+xs.length) cap e<=maxLen:=grownCap_le_maxLen w _ cap e (by unfold maxLen;omega)
     have hsize:(olds.toArray++news.toArray++Builtin.zeroCells z.cells (grownCap w (len+xs.length) cap e - (len+xs.length))).size=grownCap w (len+xs.length) cap e*P.cellsOf e:=by
      simp only [Ci,BV,size_zeroCells,hcz,hol,hnl,<- hce,<- A2]
      congr 1;omega
     have hk:=h2.keeps
     refine .value (by rw [AJ,hrun];rfl) ⟨_,_,_,hr, ?_,(h2.trans Hy).trans (IQ hd.h.fore _)⟩
     have hl2:(H.set ob none).length=H.length:=sm
     have:=hd.newObj (cs++(HU xs).map borrow1) (olds.toArray++news.toArray++Builtin.zeroCells z.cells (grownCap w (len+xs.length) cap e - (len+xs.length))) e (by rw [hsize];simp;rw [hcl,hcl0,<- A2];exact BF _ hge)
      (λi d x hd' hx'=>by
       by_cases hlt:i<cs.length
       ·rw [AT hlt] at hd'
        have hxo:olds[i]? =some x:=by
         have e0:=Pa (olds:=olds) (news:=news) (rest:=(Builtin.zeroCells z.cells (grownCap w (len+xs.length) cap e - (len+xs.length))).toList) i FO
         rw [Bn] at e0
         rw [e0,AT FO] at hx'
         exact hx'
        rw [holds,Ak,iP FO,Ae] at hxo
        obtain ⟨g1,g2,g3⟩:=hold i d x hd' hxo
        exact ⟨g1,(g2.keep hk).keep (Hy (F:=F)).keeps,F7 (by rw [g3];exact Gc d _)⟩
       ·rw [AM FO] at hd'
        obtain ⟨c,v,rfl,s1,s2,s3⟩:=hget _ d hd'
        have hlt2:=(AC.1 s2).1
        have e0:=Pa (olds:=olds) (news:=news) (rest:=(Builtin.zeroCells z.cells (grownCap w (len+xs.length) cap e - (len+xs.length))).toList) i FO
        rw [Bn] at e0
        rw [e0,AM FO,hol,<- hcl0,s2] at hx'
        cases hx'
        exact ⟨(GT c).trans s1,((s3.keep hk).keep (Hy (F:=F)).keeps).borrow1,F7 (Gc c _)⟩) (λx=>by rw [hcs',I0];simp)
      (v:=.msl H.length 0 (len+xs.length) (P.cellsOf e)) (u:=.slice (some ⟨w.heap.size,0,none⟩) (len+xs.length) (grownCap w (len+xs.length) cap e))
      (.msl _ _ _ _ w.heap.size _ (by
       show ((G.setKind b .imm).obs++[w.drew.heap.size])[H.length]? =_
       rw [AM (by show G.obs.length<=_;omega)]
       show [w.drew.heap.size][H.length - G.obs.length]? =_
       rw [hlen];simp) hge hcm ⟨_,e,heap_alloc_new _ _,by rw [hsize];omega⟩) (FT rfl rfl _)
     exact this
def XW {t e ty:Nat} {sv:AV} {xs:List AV} {u v:Value} (hc:ES F G [.sl (some 0) [],sv] H [u,v] w) (hx:Src G w (P.cellsOf e) xs v) (hu:P.underlying t=some (.slice e)) (hpos:0<P.cellsOf e)
  (hxs : ∀ x∈xs,x.cells.length=P.cellsOf e) (hz:Gj P e=true) (hpos2:0<xs.length) (hb:xs.length*P.bytesOf e<=140737488355328) (yc:xs.length<=9223372036854775807)
  (hr:R (.msl H.length 0 xs.length (P.cellsOf e)) (H++[some ((HU xs).map borrow1)])) :
  Fx P ((do let r<-Builtin.append_ #[t,t] ty #[u,v];pure (Next.value r):Sem Next).run P w) (Fe F G w R):=by
 have hs:=hc.l.rel 0 _ _ rfl rfl
 unfold Gj at hz
 split at hz
 case h_2=>cases hz
 rename_i i hi
 split at hz
 case h_2=>cases hz
 rename_i z hz'
 have hcz:z.cells.size=i.size:=by simpa using hz
 have hce:P.cellsOf e=i.size:=by simp [BI,hi]
 have hbe:P.bytesOf e=i.bytes:=by simp [Ch,hi]
 rw [hbe] at hb
 have hcl:=G6 hxs
 have hlen:=hc.h.len
 rcases hx with ⟨rfl,rfl⟩|⟨a,c,news,rfl,hnl,hnews,hone,hcell⟩
 ·simp at hpos2
 have hget : ∀ (i:Nat) (d:AV),((HU xs).map borrow1)[i]? =some d -> ∃ c v,d=borrow1 c/\c.scalar=true/\news[i]? =some v/\EU G w c v:=by
  intro i d hd
  rw [Ab] at hd
  cases hci:(HU xs)[i]? with
  | none=>rw [hci] at hd;cases hd
  | some c =>
   rw [hci] at hd
   cases hd
   obtain ⟨s1,v,s2,s3⟩:=hcell i c hci
   exact ⟨c,v,rfl,s1,s2,s3⟩
 have done : ∀ (C:Array Value) (cap:Nat),xs.length<=cap->cap<=maxLen->(∀ (i:Nat) (v:Value),news[i]? =some v->C[i]? =some v)->cap*P.cellsOf e<=C.size ->
   Fe F G w R (.slice (some ⟨w.heap.size,0,none⟩) xs.length cap) (w.drew.alloc (.cells C e)):=by
  intro C cap h1 h2 h3 h4
  have hd:=hc.draw
  have hle:=BF (P.cellsOf e) h1
  refine ⟨_,_,_,hr, ?_,Hy.trans (IQ hd.h.fore _)⟩
  exact hd.newObj ((HU xs).map borrow1) C e (by simp;rw [hcl];omega)
   (λi d x hd' hx'=>by
    obtain ⟨c,v,rfl,s1,s2,s3⟩:=hget i d hd'
    rw [h3 i v s2] at hx'
    cases hx'
    exact ⟨(GT c).trans s1,(s3.keep (Hy (F:=F)).keeps).borrow1,F7 (Gc c _)⟩) (λx=>by rw [I0];simp)
   (v:=.msl H.length 0 xs.length (P.cellsOf e)) (u:=.slice (some ⟨w.heap.size,0,none⟩) xs.length cap)
   (.msl _ _ _ _ w.heap.size _ (by
    show (G.obs++[w.drew.heap.size])[H.length]? =_
    rw [AM FO,hlen];simp) h1 h2 ⟨_,e,heap_alloc_new _ _,FO⟩) (FT rfl rfl _)
 have hzs : ∀ k,(Builtin.zeroCells z.cells k).size=k*P.cellsOf e:=λk=>by rw [size_zeroCells,hcz,hce]
 have grown : ∀ cap0,(xs.length<=grownCap w xs.length cap0 e/\grownCap w xs.length cap0 e<=maxLen):=λcap0=>⟨grownCap_ge w xs.length cap0 e,grownCap_le_maxLen w _ cap0 e (by unfold maxLen;omega)⟩
 generalize hA:AV.sl (some 0) []=A at hs
 cases hs<;>cases hA
 ·have hrun:=run_append_nil (P:=P) w t ty e i z hu hi hz' a xs.length c news (by rw [hnl,hce]) hnews hpos2 FO FO
  refine .value (by rw [AJ,hrun];rfl) (done _ _ (grown 0).1 (grown 0).2 (λi v hv=>?_) ?_)
  ·have hlt:=(AC.1 hv).1
   rw [Da (by simpa using hlt),Bf];exact hv
  ·have:=(grown 0).1
   simp only [Ci,BV,hzs,hnl,<- A2]
   exact BF _ FO
 ·rename_i ad
  have hrun:=run_append_grow (P:=P) (ty:=ty) w t e i z hu hi hz' ad 0 0 [] sm (λj v hv=>by simp at hv) a xs.length c news (by rw [hnl,hce]) hnews FO FO  (growslice_fits FO (by simpa using hb))
  simp only [AY] at hrun
  refine .value (by rw [AJ,hrun];rfl) (done _ _ (grown 0).1 (grown 0).2 (λi v hv=>?_) ?_)
  ·have hlt:=(AC.1 hv).1
   have e0:=Pa (olds:=[]) (news:=news) (rest:=(Builtin.zeroCells z.cells (grownCap w xs.length 0 e - xs.length)).toList) i (by simpa using hlt)
   rw [Bn] at e0
   rw [e0];simpa using hv
  ·have:=(grown 0).1
   simp only [Ci,BV,hzs,hnl,<- A2,AH,AY]
   exact BF _ FO
 ·rename_i hown _ _ _ _
  have:=(hown 0 rfl).2
  omega
def AAi {t e ty ob off len sz:Nat} {cs:List AV} {z:AV} {u:Value} (hc:ES F G [.msl ob off len sz] H [u] w) (ho:H[ob]? =some (some cs)) (hu:P.underlying t=some (.slice e)) (hzv:Fi P e=some z) (hsz:sz=z.cells.length) (hn:0<len)
  (hle:off+len*sz<=cs.length) (hr:R (.tup []) (H.set ob (some (splice cs off (Ga z len))))) :
  Fx P ((do let r<-Builtin.clear_ #[t] ty #[u];pure (Next.value r):Sem Next).run P w) (Fe F G w R):=by
 subst hsz
 have hp:=hc.l.rel 0 _ _ rfl rfl
 obtain ⟨zv,hrun,hval,hcz,htz⟩:=Mi hzv
 have hz0:=hcz F G w
 have hzl:z.cells.length=zv.cells.size:=by simpa using hz0.len
 cases hp with
 | msl _ _ _ _ b cap hob hlc hmx hrw =>
  obtain ⟨C0,E0,hrow0,_⟩:=hrw
  obtain ⟨C,E,hrow,hCs,hC⟩:=hc.h.at_obj ho hob ⟨C0,E0,hrow0⟩
  let L:List Value:=(Builtin.zeroCells zv.cells len).toList
  have hL:L=(Am (len*zv.cells.size)).map λi=>zv.cells[i % zv.cells.size]!:=by
   show (Builtin.zeroCells zv.cells len).toList=_
   simp [Builtin.zeroCells]
  have hXl:(Ga z len).length=len*z.cells.length:=by simp [Ga]
  have hLl:L.length=len*z.cells.length:=by rw [hL,hzl];simp
  have pair : ∀ (i:Nat) (c:AV) (v:Value),(Ga z len)[i]? =some c->L[i]? =some v -> ∃ j:Nat,z.cells[j]? =some c/\zv.cells.toList[j]? =some v:=by
   intro i c v h1 h2
   have hi:i<len*z.cells.length:=by have:=(AC.1 h1).1;omega
   have hpos:0<z.cells.length:=Nat.pos_of_ne_zero λh=>by rw [h] at hi;simp at hi
   have hj:i % z.cells.length<z.cells.length:=C7 _ hpos
   refine ⟨i % z.cells.length, ?_, ?_⟩
   ·unfold Ga at h1
    rw [Ab,CV hi] at h1
    simp only [BU,Option.some.injEq] at h1
    rw [AL hj] at h1 ⊢
    simpa using h1
   ·rw [hL,Ab,<- hzl,CV hi] at h2
    simp only [BU,Option.some.injEq] at h2
    have hj2:i % z.cells.length<zv.cells.size:=FO
    rw [Ae,Aj hj2,<- h2,getElem!_pos zv.cells _ hj2]
  have hcv:Cells F G w (Ga z len) L:=⟨by rw [hXl,hLl],λi c v h1 h2=>by obtain ⟨j,g1,g2⟩:=pair i c v h1 h2;exact hz0.at_ j c v g1 g2⟩
  have htk:Gy (Ga z len) L=[]:=by
   unfold Gy at htz ⊢
   rw [B3] at htz ⊢
   intro p hp
   obtain ⟨i,hi⟩:=Af hp
   rw [Bc] at hi
   obtain ⟨j,g1,g2⟩:=pair i _ _ hi.1 hi.2
   exact htz p (AB (Bc.2 ⟨g1,g2⟩))
  have hst:=run_storeCells_at P b off E L 0 C w hrow (by rw [hLl];omega) hcv.oneCell
  simp only [BB] at hst
  let C':Array Value:=(C.toList.take off++L++C.toList.drop (off+L.length)).toArray
  have hC':C'=(C.toList.take off++L++C.toList.drop (off+L.length)).toArray:=rfl
  have hsize:C'.size=C.size:=by rw [hC'];simp;omega
  have hrun2:(Builtin.clear_ #[t] ty #[.slice (some ⟨b,off,none⟩) len cap]).run P w = .ok (.tuple #[]) (w.setRow b C'):=by
   obtain ⟨m,rfl⟩ : ∃ m,len=m+1:=⟨len - 1,FO⟩
   simp [Builtin.clear_,run_underlying hu,hrun,hst,hC',L]
  have hlen2:(splice cs off (Ga z len)).length=cs.length:=MP FO
  have hspl:C'.toList.take cs.length=Hr (C.toList.take cs.length) off L:=by
   rw [hC']
   have:=TQ C.toList L off cs.length FO (by simpa using hCs)
   simpa [Hr] using this
  have hCC:=hC.splice (off:=off) hcv
  have hset:=hc.setObj ho hob hrow (C':=C') hsize (cs':=splice cs off (Ga z len)) (by rw [hlen2,hsize];exact hCs) (λi c y hc' hy=>?_) (vs:=[.tup []]) (us':=[.tuple #[]])
   (.cons (.tup [] #[] rfl (λ_ h=>by cases h) (λ_ _ _ h=>by cases h)) (Ff (by simp [Gs,LE,AV.flat,IA]) F G w) (.nil F G w)) (λy=>?_)
  ·exact .value (by rw [AJ,hrun2];rfl) ⟨.tup [],_,G,hr,hset.1,hset.2⟩
  ·have hi:=(AC.1 hc').1
   refine hCC.at_ i c y hc' ?_
   rw [<- hspl,Ak,iP FO]
   simpa using hy
  ·have e0:Gs (.tup []) (.tuple #[])=[]:=by simp [Gs,LE,AV.flat,IA]
   rw [FY,GS,e0,FY,GS,FT rfl rfl]
   have z1:(splice cs off (Ga z len)).zip C'.toList=(splice cs off (Ga z len)).zip (Hr (C.toList.take cs.length) off L):=by
    have:=Lm (splice cs off (Ga z len)) C'.toList
    rw [hlen2,hspl] at this;exact this
   rw [z1,Lm cs C.toList]
   have h1:=Nl (cs:=cs) (xs:=Ga z len) (vs:=C.toList.take cs.length) (ys:=L) (off:=off) hC.len FO y
   rw [htk] at h1
   unfold Gy at h1
   simp only [Bd] at h1 ⊢
   omega
end
end Go.AI
namespace Go.AI
open Go.MapKept
section
variable {P:Program} {F:Nat->Prop} {G:Gh} {w:World} {H:FP} {R:AV->FP->Prop}
def MN{es:List AV}(h : ∀ c∈es,c.scalar=true):HU es=es:=by
 induction es with
 | nil=>rfl
 | cons c es ih =>
  simp only [HU,BJ,Lf (h c sm)]
  have:=ih λc' hc'=>h c' (by simp [hc'])
  simp only [HU] at this
  rw [this];rfl
def XT {t ta e n:Nat} {cs:List AV} {off:Nat} {u:Value} {rest:List AV} {urest:List Value} (hc:ES F G (.cptr cs off::rest) H (u::urest) w) (hu:P.underlying t=some (.pointer ta)) (ha:P.underlying ta=some (.array n e))
  (h1:P.cellsOf e=1) (hle:off+n<=cs.length) (hm:n<=9223372036854775807) (hr:R (.sl none ((cs.drop off).take n)) H) :
  Fx P ((do let r<-Instr.sliceAt t u none none none;pure (Next.value r):Sem Next).run P w) (Fe F G w R):=by
 have hx:=hc.l.rel 0 _ _ rfl rfl
 cases hx with
 | cptr _ _ b q f g1 g2 =>
  have hb:=HG (P:=P) (isSlice:=false) (len:=n) (cap:=n) (.none) (.none) .none (λh=>by cases h) sm sm  sm sm  w
  have hsz:=Gd (P:=P) (t:=e) (by rw [h1];exact D5) w
  have hlen:((cs.drop off).take n).length=n:=by simp;omega
  have hget : ∀ (i:Nat) (c:AV),((cs.drop off).take n)[i]? =some c->cs[off+i]? =some c:=λi c hi=>by
   rw [Ak] at hi
   split at hi
   ·rwa [A1] at hi
   ·cases hi
  have hsc : ∀ c∈(cs.drop off).take n,c.scalar=true:=λc hc'=>by
   obtain ⟨i,hi⟩:=Af hc'
   exact (g1 _ c (hget i c hi)).1
  refine .value (u:=.slice (some ⟨b,q+off,none⟩) n n) (w':=w) ?_ (Fe.plain hc hr ?_ (GM rfl _))
  ·simp only [Instr.sliceAt,Instr.slice,AJ,run_underlying hu,AZ,asAddr,Ad,run_underlying ha,hb,hsz,h1]
   simp [G9]
  ·have hv:=VRel.sl (G:=G) (w:=w) none ((cs.drop off).take n) 1 b (q+off) n (λi=>f (off+i)) (λx hx=>by rw [Lf (hsc x hx)];rfl) (λ_ h=>by cases h) FO (by unfold maxLen;omega)
    (λi c hi=>by
     rw [MN hsc] at hi
     have:=g1 _ c (hget i c hi)
     rw [Ag];exact this)
    (λi c hi=>by
     rw [MN hsc] at hi
     exact g2 _ c (hget i c hi))
   rw [hlen] at hv
   exact hv
def VQ {t e n:Nat} {cs:List AV} {off:Nat} {u:Value} {rest:List AV} {urest:List Value} (hc:ES F G (.cptr cs off::rest) H (u::urest) w) (ha:P.underlying t=some (.array n e))
  (h1:P.cellsOf e=1) (hle:off+n<=cs.length) (hm:n<=9223372036854775807) (hr:R (.sl none ((cs.drop off).take n)) H) :
  Fx P ((do let r<-Instr.sliceAt t u none none none;pure (Next.value r):Sem Next).run P w) (Fe F G w R):=by
 have hx:=hc.l.rel 0 _ _ rfl rfl
 cases hx with
 | cptr _ _ b q f g1 g2 =>
  have hb:=HG (P:=P) (isSlice:=false) (len:=n) (cap:=n) (.none) (.none) .none (λh=>by cases h) sm sm  sm sm  w
  have hsz:=Gd (P:=P) (t:=e) (by rw [h1];exact D5) w
  have hlen:((cs.drop off).take n).length=n:=by simp;omega
  have hget : ∀ (i:Nat) (c:AV),((cs.drop off).take n)[i]? =some c->cs[off+i]? =some c:=λi c hi=>by
   rw [Ak] at hi
   split at hi
   ·rwa [A1] at hi
   ·cases hi
  have hsc : ∀ c∈(cs.drop off).take n,c.scalar=true:=λc hc'=>by
   obtain ⟨i,hi⟩:=Af hc'
   exact (g1 _ c (hget i c hi)).1
  refine .value (u:=.slice (some ⟨b,q+off,none⟩) n n) (w':=w) ?_ (Fe.plain hc hr ?_ (GM rfl _))
  ·simp only [Instr.sliceAt,Instr.sureAddr,AJ,AZ,Ad,run_underlying ha,hb,hsz,h1]
   simp [G9]
  ·have hv:=VRel.sl (G:=G) (w:=w) none ((cs.drop off).take n) 1 b (q+off) n (λi=>f (off+i)) (λx hx=>by rw [Lf (hsc x hx)];rfl) (λ_ h=>by cases h) FO (by unfold maxLen;omega)
    (λi c hi=>by
     rw [MN hsc] at hi
     have:=g1 _ c (hget i c hi)
     rw [Ag];exact this)
    (λi c hi=>by
     rw [MN hsc] at hi
     exact g2 _ c (hget i c hi))
   rw [hlen] at hv
   exact hv
def Zw {t e n o off:Nat} {cs:List AV} {u:Value} {rest:List AV} {urest:List Value} (hc:ES F G (.ptr o off::rest) H (u::urest) w) (ha:P.underlying t=some (.array n e))
  (hi:(P.info? e).isSome=true) (ho:H[o]? =some (some cs)) (hle:off+n*P.cellsOf e<=cs.length) (hm:n<=9223372036854775807) (hr:R (.msl o off n (P.cellsOf e)) H) :
  Fx P ((do let r<-Instr.sliceAt t u none none none;pure (Next.value r):Sem Next).run P w) (Fe F G w R):=by
 have hx:=hc.l.rel 0 _ _ rfl rfl
 obtain ⟨i,hi'⟩:=Bg.1 hi
 have hsize : ∀ w,(sizeOf e).run P w = .ok (P.cellsOf e) w:=λw=>by simp [sizeOf,typeInfo,hi',BI]
 cases hx with
 | ptr _ _ b hob hcell =>
  obtain ⟨C0,E0,hcell⟩:=hcell
  obtain ⟨_,C,E,g2,g3,_⟩:=(hc.h.obj o cs b ho hob).of_cells hcell
  have hb:=HG (P:=P) (isSlice:=false) (len:=n) (cap:=n) (.none) (.none) .none (λh=>by cases h) sm sm  sm sm  w
  refine .value (u:=.slice (some ⟨b,off,none⟩) n n) (w':=w) ?_ (Fe.plain hc hr (.msl _ _ _ _ b n hob (AU _) (by unfold maxLen;omega) ⟨C,E,g2,FO⟩) (FT rfl rfl _))
  simp only [Instr.sliceAt,Instr.sureAddr,AJ,AZ,Ad,run_underlying ha,hb,hsize]
  simp [G9]
def XU {t e:Nat} {own:Option Nat} {es:List AV} {u:Value} {rest:List AV} {urest:List Value} {hi mx:Option Value} (hc:ES F G (.sl own es::rest) H (u::urest) w) (hu:P.underlying t=some (.slice e))
  (hh:ET hi (some 0)) (hm:ET mx (some 0)) (hz:(P.info? e).isSome=true) (hr:R (.sl (some 0) []) H) :
  Fx P ((do let r<-Instr.sliceAt t u none hi mx;pure (Next.value r):Sem Next).run P w) (Fe F G w R):=by
 have hx:=hc.l.rel 0 _ _ rfl rfl
 obtain ⟨i,hi'⟩:=Bg.1 hz
 have hsize : ∀ w,(sizeOf e).run P w = .ok (P.cellsOf e) w:=λw=>by simp [sizeOf,typeInfo,hi',BI]
 have run : ∀ (a:Option Addr) (len cap:Nat),(Instr.sliceAt t (.slice a len cap) none hi mx).run P w = .ok (.slice a 0 0) w:=λa len cap=>by
  have hb:=HG (P:=P) (isSlice:=true) (len:=len) (cap:=cap) .none hh hm (λ_=>rfl) sm sm  sm sm  w
  simp only [Instr.sliceAt,Instr.slice,AJ,run_underlying hu,AZ,hb,hsize]
  simp
 have nt : ∀ a:Option Addr,Gs (.sl (some 0) []) (.slice a 0 0)=[]:=λa=>by cases a<;>simp [Gs,LE,AV.flat,AV.cells,IA,Value.cells,tok]
 cases hx with
 | slnil=>exact .value (by rw [AJ,run];rfl) (Fe.plain hc hr (.slnil _) (nt _))
 | slany _ a=>exact .value (by rw [AJ,run];rfl) (Fe.plain hc hr (.slany _ _) (nt _))
 | sl _ _ sz b q cap f hsz hown hl hmx hcs hus=>exact .value (by rw [AJ,run];rfl) (Fe.plain hc hr (.slany _ _) (nt _))
def ym{t:TypeId}{z:AV}(h:Fi P t=some z): ∃ zv,(∀ w,(zeroValue t).run P w = .ok zv w)/\z.isVal=true/\EU G w z zv:=by
 obtain ⟨zv0,hrun,hval,hcells,_⟩:=Mi (P:=P) h
 refine ⟨zv0,hrun,hval, ?_⟩
 unfold Fi at h
 split at h
 ·rename_i cs hz
  split at h
  ·cases h
   cases hi:P.info? t with
   | none=>rw [hi] at hz;cases hz
   | some i =>
    rw [hi] at hz
    have hz':i.zero=some (.agg cs):=hz
    have h2:(zeroValue t).run P default = .ok (.agg cs) default:=by simp [zeroValue,typeInfo,hi,hz']
    rw [hrun default] at h2
    cases h2
    have:=(oV (hcells (λ_=>False) G w)).1
    exact this
  ·cases h
 ·rename_i zv hne hz
  split at h
  ·cases h
   cases hi:P.info? t with
   | none=>rw [hi] at hz;cases hz
   | some i =>
    rw [hi] at hz
    have hz':i.zero=some zv:=hz
    have h2:(zeroValue t).run P default = .ok zv default:=by simp [zeroValue,typeInfo,hi,hz']
    rw [hrun default] at h2
    cases h2
    exact VRel.constT G w _ _
  ·cases h
 ·cases h
def fD{t:TypeId}{r:Option Value}{vs:List AV}{us:List Value}(hc:ES F G vs H us w)(hrun:(Instr.makeMap t r).run P w = .ok (.map (some w.heap.size)) (w.alloc (.map #[] 0)))(hr:R (.mapr H.length) (H++[some (J1 [])])):
  Fx P ((do let v<-Instr.makeMap t r;pure (Next.value v):Sem Next).run P w) (Fe F G w R):=by
 refine .value (by rw [AJ,hrun];rfl) ⟨_,_,G.newK w.heap.size .map,hr, ?_,M9 hc.h.fore _ _⟩
 have hkn:(G.newK w.heap.size .map).kind w.heap.size = .map:=G.kind_set _ _
 have hlen:=hc.h.len
 refine hc.newG .map (.map #[] 0) (J1 []) ⟨λhF=>absurd (hc.h.fore _ hF) (Bq _), ?_⟩ (.cons (.mapr _ _ ?_ (by rw [size_alloc];omega) hkn) (Ff (GM rfl _) F _ _) (.nil F _ _)) (λb=>?_)
 ·rw [hkn]
  exact ⟨[],#[],0,heap_alloc_new _ _,rfl,rfl,(λi p m h=>by simp at h),rfl,λi m h=>by simp at h⟩
 ·show (G.obs++[w.heap.size])[H.length]? =_
  rw [AM FO,hlen,AO];rfl
 ·rw [FY,GS,GM rfl];simp [Wa]
def lz{t:TypeId}(hc:ES F G [] H [] w)(hr:R (.mapr H.length) (H++[some (J1 [])])):
  Fx P ((do let v<-Instr.makeMap t none;pure (Next.value v):Sem Next).run P w) (Fe F G w R) :=
 fD hc (by simp [Instr.makeMap]) hr
def T1{t kt et:TypeId}{k:IntKind}{n:Int}{u:Value}(hc:ES F G [.int k n] H [u] w)(hu:P.underlying t=some (.map kt et))(hr:R (.mapr H.length) (H++[some (J1 [])])):
  Fx P ((do let v<-Instr.makeMap t (some u);pure (Next.value v):Sem Next).run P w) (Fe F G w R):=by
 have hx:=hc.l.rel 0 _ _ rfl rfl
 cases hx
 exact fD hc (by simp [Instr.makeMap,run_underlying hu,asInt,asIntOf,Bi]) hr
def Sj{m:AV}{um:Value}{es:List (AV×AV)}{vs:List AV}{us:List Value}(hc:ES F G vs H us w)(hm:EU G w m um)(he:Im H m=some es):
  (m = .nilm/\um = .map none/\es=[]) \/ ∃ o b ms cl,m = .mapr o/\um = .map (some b)/\G.obs[o]? =some b/\G.kind b = .map/\w.heap[b]? =some (.map ms cl)/\es.length=ms.size/\H[o]? =some (some (J1 es)) /\
   ∀ (i:Nat) (p:AV×AV) (x:MapEntry),es[i]? =some p->ms[i]? =some x->p.1.isVal=true/\p.2.isVal=true/\EU G w p.1 x.key/\EU G w p.2 x.val:=by
 cases hm with
 | nilm=>simp only [Im,Option.some.injEq] at he;exact .inl ⟨rfl,rfl,he.symm⟩
 | mapr o b h hb hk =>
  refine .inr ?_
  simp only [Im] at he
  split at he
  ·rename_i cs hcs
   have hi:=(hc.h.obj o cs b hcs h).is
   rw [hk] at hi
   obtain ⟨es',ms,cl,g1,g2,g3,g4,_⟩:=hi
   subst g2
   rw [TN] at he
   cases he
   exact ⟨o,b,ms,cl,rfl,rfl,h,hk,g1,g3,hcs,g4⟩
  ·cases he
 | _=>simp [Im] at he
def Lu{o b:Nat}{ms:Array MapEntry}{cl:Nat}{cs:List AV}{vs:List AV}{us:List Value}(hc:ES F G vs H us w)(ho:H[o]? =some (some cs))(hb:G.obs[o]? =some b)(hk:G.kind b = .map)(hms:w.heap[b]? =some (.map ms cl)):
  cl=ms.size /\ ∀ (i:Nat) (m:MapEntry),ms[i]? =some m->m.born=i:=by
 have hi:=(hc.h.obj o cs b ho hb).is
 rw [hk] at hi
 obtain ⟨es',ms',cl',g1,_,_,_,g5⟩:=hi
 rw [hms] at g1;cases g1
 exact g5
def qS {kt:TypeId} {D:Value->Prop} (K:KLaw P kt D) {k:AV} {uk:Value} {es:List (AV×AV)} {ms:Array MapEntry} (hk:EU G w k uk) (hkD : ∃ v,Sq k=some v/\D v) (hl:es.length=ms.size)
  (hD : ∀ a∈es.map (·.1),∃ v,Sq a=some v/\D v) (hd:Rm es)
  (hr : ∀ (i:Nat) (p:AV×AV) (x:MapEntry),es[i]? =some p->ms[i]? =some x->p.1.isVal=true/\p.2.isVal=true/\EU G w p.1 x.key/\EU G w p.2 x.val) :
  D uk/\((JD k es 0=none/\(Instr.findKey kt uk ms.toList).run P w = .ok none w) \/
   ∃ j p x,JD k es 0=some (j,p.2)/\es[j]? =some p/\ms[j]? =some x/\x.key=uk/\(Instr.findKey kt uk ms.toList).run P w = .ok (some (j,x.val)) w):=by
 obtain ⟨vk,hvk,hDk⟩:=hkD
 have huk:=Vy hvk hk
 subst huk
 have at_ : ∀ (j:Nat) (x:MapEntry),ms[j]? =some x -> ∃ p,es[j]? =some p/\Sq p.1=some x.key/\D x.key:=λj x hj=>by
  have hlt:=(Ao.1 hj).1
  have hp:es[j]? =some es[j]:=AL FO
  obtain ⟨v,hv,hDv⟩:=hD es[j].1 (AP.2 ⟨_,AB hp,rfl⟩)
  have:=Vy hv (hr j _ x hp hj).2.2.1
  subst this
  exact ⟨_,hp,hv,hDv⟩
 refine ⟨hDk, ?_⟩
 rcases K.find w hDk ms.toList (λx hx=>by
  obtain ⟨j,hj⟩:=Af hx
  rw [Ae] at hj
  obtain ⟨p,_,_,h⟩:=at_ j x hj
  exact h) with ⟨h1,h2⟩|⟨j,x,h1,h2,h3⟩
 ·refine .inl ⟨Wl λp hp=>?_,h1⟩
  obtain ⟨j,hj⟩:=Af hp
  have hlt:=(AC.1 hj).1
  have hx:ms[j]? =some (ms[j]' FO):=Aj _
  obtain ⟨p',hp',hv',_⟩:=at_ j _ hx
  rw [hj] at hp';cases hp'
  cases hq:Ht p.1 k with
  | false=>rfl
  | true =>
   exact absurd ((PY hv' hvk).1 hq) (h2 _ (by rw [<- Ae] at hx;exact AB hx))
 ·rw [Ae] at h2
  obtain ⟨p,hp,hv,_⟩:=at_ j x h2
  have hke:Ht p.1 k=true:=(PY hv hvk).2 h3
  refine .inr ⟨j,p,x, ?_,hp,h2,h3,h1⟩
  have:=jM (k:=k) (i:=0) hp hke (λl q hq hlt=>by
   have h4:=List.pairwise_iff_getElem.1 hd l j (AC.1 hq).1 (AC.1 hp).1 hlt
   rw [(AC.1 hq).2,(AC.1 hp).2] at h4
   have hq2:ms[l]? =some (ms[l]'(by have:=(AC.1 hq).1;omega)):=Aj _
   obtain ⟨q',hq',hvq,_⟩:=at_ l _ hq2
   rw [hq] at hq';cases hq'
   cases hqe:Ht q.1 k with
   | false=>rfl
   | true =>
    have e1:=(PY hvq hvk).1 hqe
    have e2:Ht q.1 p.1=true:=(PY hvq hv).2 (e1.trans h3.symm)
    rw [e2] at h4;cases h4)
  rw [AY] at this
  exact this
def sR {t kt et:TypeId} {ok:Bool} {m k:AV} {um uk:Value} {es:List (AV×AV)} {z:AV} (hc:ES F G [m,k] H [um,uk] w) (hu:P.underlying t=some (.map kt et)) (he:Im H m=some es)
  (hk:MW P kt (k::es.map (·.1))) (hd:Rm es) (hz:Fi P et=some z) (hr:R (fH ok z (JD k es 0)) H) :
  Fx P ((do let r<-Instr.lookup t um uk ok;pure (Next.value r):Sem Next).run P w) (Fe F G w R):=by
 have hm:=hc.l.rel 0 _ _ rfl rfl
 have hkr:=hc.l.rel 1 _ _ rfl rfl
 obtain ⟨D,K,hD⟩:=hk
 obtain ⟨zv,hzr,hzval,hzv⟩:=ym (P:=P) (G:=G) (w:=w) hz
 have out : ∀ (v:AV) (u:Value) (b:Bool),EU G w v u->v.isVal=true->R (if ok=true then .tup [v.borrow,.bool b] else v.borrow) H ->
   Fx P (.ok (.value (if ok=true then .tuple #[u,.bool b] else u)) w) (Fe F G w R):=by
  intro v u b hv hval hR
  cases ok with
  | false=>exact Fe.plain hc hR hv.borrow (Gb _ _)
  | true =>
   refine Fe.plain hc hR ?_ ?_
   ·refine .tup _ _ rfl (λc hc'=>?_) (λi c x h1 h2=>?_)
    ·simp only [List.mem_cons,List.not_mem_nil,or_false] at hc'
     rcases hc' with rfl|rfl
     ·cases v<;>first|rfl|cases hval
     ·rfl
    ·match i with
     | 0=>simp at h1 h2;subst h1;subst h2;exact hv.borrow
     | 1=>simp at h1 h2;subst h1;subst h2;exact .bool b
     | i+2=>simp at h1
   ·refine GM ?_ _
    show ((([v.borrow,AV.bool b]:List AV).flatMap AV.cells).any GE)=false
    have : ∀ c∈v.borrow.cells,GE c=false:=λc hc'=>by
     have hb:v.borrow.cells=v.cells.map borrow1:=by cases v<;>first|rfl|cases hval
     rw [hb] at hc'
     obtain ⟨d,_,rfl⟩:=AP.1 hc'
     cases d<;>rfl
    simp only [BJ,List.flatMap_nil,Ai,List.any_append,CE]
    refine ⟨?_,rfl⟩
    rw [Bl]
    intro c hc' h
    rw [this c hc'] at h
    cases h
 rcases Sj hc hm he with ⟨rfl,rfl,rfl⟩|⟨o,b,ms,cl,rfl,rfl,hob,hkb,hms,hl,hH,hrel⟩
 ·obtain ⟨v,hv,hDv⟩:=hD k sm
  have huk:=Vy hv hkr
  subst huk
  have hfind:(Instr.findKey kt uk []).run P w = .ok none w:=by
   rcases K.find w hDv [] (λ_ h=>by cases h) with ⟨h1,_⟩|⟨j,e,_,h2,_⟩
   ·exact h1
   ·simp at h2
  have hrun:(do let r<-Instr.lookup t (.map none) uk ok;pure (Next.value r):Sem Next).run P w = .ok (.value (if ok=true then .tuple #[zv,.bool false] else zv)) w:=by
   simp [Instr.lookup,run_underlying hu,Bi,K.check w _ hDv,hfind,hzr]
  rw [hrun]
  exact out z zv false hzv hzval hr
 ·obtain ⟨hDk,hf⟩:=qS K hkr (hD k sm) hl (λa ha=>hD a (by simp at ha ⊢;exact .inr ha)) hd hrel
  rcases hf with ⟨f1,f2⟩|⟨j,p,x,f1,f2,f3,f4,f5⟩
  ·have hrun:(do let r<-Instr.lookup t (.map (some b)) uk ok;pure (Next.value r):Sem Next).run P w = .ok (.value (if ok=true then .tuple #[zv,.bool false] else zv)) w:=by
    simp [Instr.lookup,run_underlying hu,Bi,MapKept.run_getObj_map hms,K.check w _ hDk,f2,hzr]
   rw [hrun]
   rw [f1] at hr
   exact out z zv false hzv hzval hr
  ·have hrun:(do let r<-Instr.lookup t (.map (some b)) uk ok;pure (Next.value r):Sem Next).run P w = .ok (.value (if ok=true then .tuple #[x.val,.bool true] else x.val)) w:=by
    simp [Instr.lookup,run_underlying hu,Bi,MapKept.run_getObj_map hms,K.check w _ hDk,f5]
   rw [hrun]
   rw [f1] at hr
   exact out p.2 x.val true (hrel j p x f2 f3).2.2.2 (hrel j p x f2 f3).2.1 hr
def Zy {t kt et:TypeId} {o:Nat} {k v:AV} {um uk uv:Value} {es:List (AV×AV)} (hc:ES F G [.mapr o,k,v] H [um,uk,uv] w) (hu:P.underlying t=some (.map kt et)) (he:Im H (.mapr o)=some es)
  (hk:MW P kt (k::es.map (·.1))) (hd:Rm es) (hval:v.isVal=true) (hr:R .undef (H.set o (some (J1 (MU es k v))))) :
  Fx P ((do Instr.mapUpdate t um uk uv;pure Next.skip:Sem Next).run P w) (Fe F G w R):=by
 have hm:=hc.l.rel 0 _ _ rfl rfl
 have hkr:=hc.l.rel 1 _ _ rfl rfl
 have hvr:=hc.l.rel 2 _ _ rfl rfl
 obtain ⟨D,K,hD⟩:=hk
 rcases Sj hc hm he with ⟨h,_⟩|⟨o',b,ms,cl,ho,rfl,hob,hkb,hms,hl,hH,hrel⟩
 ·cases h
 cases ho
 obtain ⟨hDk,hf⟩:=qS K hkr (hD k sm) hl (λa ha=>hD a (by simp at ha ⊢;exact .inr ha)) hd hrel
 have hkval:k.isVal=true:=ABO (hD k sm).choose_spec.1
 have hsp:(G.kind b).sp=true:=by rw [hkb];rfl
 have hor:=hc.h.obj o _ b hH hob
 obtain ⟨hcl,hborn⟩:=Lu hc hH hob hkb hms
 have lay : ∀ (ms':Array MapEntry) (cl':Nat) (es':List (AV×AV)),es'.length=ms'.size->(cl'=ms'.size /\ ∀ (i:Nat) (m:MapEntry),ms'[i]? =some m->m.born=i)->R .undef (H.set o (some (J1 es'))) ->
   (∀ (i:Nat) (p:AV×AV) (x:MapEntry),es'[i]? =some p->ms'[i]? =some x->p.1.isVal=true/\p.2.isVal=true/\EU G w p.1 x.key/\EU G w p.2 x.val) ->
   Fe F G w R Go.undef (w.putObj b (.map ms' cl')):=by
  intro ms' cl' es' hl' hbo hR hrel'
  have he2:Ext F G w G (w.putObj b (.map ms' cl')):=Ke hor.own hms (λ_ _ _ e=>by cases e)
  obtain ⟨h1,h2⟩:=hc.setSp (X:=.map ms' cl') hH hob hsp (λ_ _ _ e=>by cases e) (cs':=J1 es') ⟨hor.own,by
   rw [hkb]
   exact ⟨es',ms',cl',World.putObj_heap_same hor.lt,rfl,hl',(λi p x g1 g2 =>
    let ⟨a1,a2,a3,a4⟩:=hrel' i p x g1 g2;⟨a1,a2,a3.keep he2.keeps,a4.keep he2.keeps⟩),hbo⟩⟩
   (vs:=[.undef]) (us':=[Go.undef]) (.cons (.undef _) (Ff (Hc _) F G w) (.nil F G w)) (λx=>by rw [FY,GS,Hc];simp)
  exact ⟨_,_,G,hR,h1,h2⟩
 rcases hf with ⟨f1,f2⟩|⟨j,p,x,f1,f2,f3,f4,f5⟩
 ·have hrun:(do Instr.mapUpdate t (.map (some b)) uk uv;pure Next.skip:Sem Next).run P w = .ok .skip (w.putObj b (.map (ms.push { key:=uk,val:=uv,born:=cl }) (cl+1))):=by
   simp [Instr.mapUpdate,run_underlying hu,Bi,MapKept.run_getObj_map hms,K.check w _ hDk,f2,MapKept.run_setObj_map _ hms,World.putObj]
  rw [hrun]
  simp only [MU,f1] at hr
  refine lay _ _ (es++[(k,v)]) (by simp [hl]) ⟨by simp [hcl],λi m g=>?_⟩ hr λi p x g1 g2=>?_
  ·by_cases hi:i<ms.size
   ·rw [D6 hi] at g
    exact hborn i m (by rw [Aj hi];exact g)
   ·have hlt:=(Ao.1 g).1
    simp only [Array.size_push] at hlt
    have:i=ms.size:=FO
    subst this
    rw [D7] at g
    cases g
    exact hcl
  by_cases hi:i<es.length
  ·rw [AT hi] at g1
   rw [D6 FO] at g2
   exact hrel i p x g1 (by rw [Aj FO];exact g2)
  ·have hlt:=(AC.1 g1).1
   simp only [AF,AD,AH] at hlt
   have hie:i=es.length:=FO
   subst hie
   rw [AM (AU _),AO] at g1
   rw [hl,D7] at g2
   cases g1;cases g2
   exact ⟨hkval,hval,hkr,hvr⟩
 ·have hrun:(do Instr.mapUpdate t (.map (some b)) uk uv;pure Next.skip:Sem Next).run P w = .ok .skip (w.putObj b (.map (ms.modify j λe=>{ e with key:=uk,val:=uv }) cl)):=by
   simp [Instr.mapUpdate,run_underlying hu,Bi,MapKept.run_getObj_map hms,K.check w _ hDk,f5,f3,f4,K.stays w hDk,MapKept.run_setObj_map _ hms,World.putObj]
  rw [hrun]
  simp only [MU,f1] at hr
  refine lay _ _ (es.set j (k,v)) (by simp [hl]) ⟨by simp [hcl],λi m g=>?_⟩ hr λi q y g1 g2=>?_
  ·rw [D8] at g
   split at g
   ·rename_i hij
    subst hij
    rw [f3] at g
    simp only [BU,Option.some.injEq] at g
    rw [<- g]
    have hb:x.born=j:=hborn _ _ f3
    exact hb
   ·exact hborn i m g
  rw [Aw] at g1
  rw [D8] at g2
  split at g1
  ·rename_i hij
   subst hij
   split at g1
   ·rw [iP rfl,f3] at g2
    cases g1;cases g2
    exact ⟨hkval,hval,hkr,hvr⟩
   ·cases g1
  ·rename_i hij
   rw [iN hij] at g2
   exact hrel i q y g1 g2
end
end Go.AI
namespace Go.AI
section
variable {P:Program} {F:Nat->Prop} {G:Gh} {w:World} {H:FP} {R:AV->FP->Prop}
def lH(l:List Nat):SN (l.map λ(i:Nat)=>AV.int .i64 (i:Int))=l.map λ(i:Nat)=>(i:Int):=by
 induction l with
 | nil=>rfl
 | cons x xs ih =>
  show (x:Int)::SN (xs.map λ(i:Nat)=>AV.int .i64 (i:Int))=_
  rw [ih];rfl
def Sr {t:TypeId} {u:Value} {X:Obj} {cs:List AV} {vs:List AV} {us:List Value} (hc:ES F G vs H us w) (hrun:(Instr.range t u).run P w = .ok (.pointer (some ⟨w.heap.size,0,none⟩)) (w.alloc X))
  (hX : ∀ C E f,X ≠ .cells C E f) (his:cA (G.newK w.heap.size .iter) (w.alloc X) cs w.heap.size) (hr:R (.it H.length) (H++[some cs])) :
  Fx P ((do let v<-Instr.range t u;pure (Next.value v):Sem Next).run P w) (Fe F G w R):=by
 refine .value (by rw [AJ,hrun];rfl) ⟨_,_,G.newK w.heap.size .iter,hr, ?_,M9 hc.h.fore _ _⟩
 have hkn:(G.newK w.heap.size .iter).kind w.heap.size = .iter:=G.kind_set _ _
 have hlen:=hc.h.len
 refine hc.newG .iter X cs ⟨λhF=>absurd (hc.h.fore _ hF) (Bq _),by rw [hkn];exact his⟩ (.cons (.it _ _ ?_ (by rw [size_alloc];omega) hkn) (Ff (GM rfl _) F _ _) (.nil F _ _)) (λb=>?_)
 ·show (G.obs++[w.heap.size])[H.length]? =_
  rw [AM FO,hlen,AO];rfl
 ·rw [FY,GS,GM rfl]
  have:Wa cs X=[]:=by cases X<;>first|rfl|exact absurd rfl (hX _ _ _)
  rw [this];simp
def AAf{t:TypeId}{x:AV}{u:Value}(hc:ES F G [x] H [u] w)(hr:Qx P t H x R):
  Fx P ((do let v<-Instr.range t u;pure (Next.value v):Sem Next).run P w) (Fe F G w R):=by
 have hx:=hc.l.rel 0 _ _ rfl rfl
 unfold Qx at hr
 split at hr
 ·rename_i s hu
  cases hx
  exact Sr hc (by simp [Instr.range,run_underlying hu,Bi]) (λ_ _ _ e=>by cases e) (.inl ⟨s,0,heap_alloc_new _ _,rfl⟩) hr
 ·rename_i hu
  cases hx
  exact Sr hc (by simp [Instr.range,run_underlying hu,Bi]) (λ_ _ _ e=>by cases e) (.inr (.inl ⟨heap_alloc_new _ _,rfl⟩)) hr
 ·rename_i kt et o' hu
  split at hr
  ·rename_i es he
   rcases Sj hc hx he with ⟨h,_⟩|⟨o,b,ms,cl,ho,rfl,hob,hkb,hms,hl,hH,hrel⟩
   ·cases h
   cases ho
   obtain ⟨hcl,hborn⟩:=Lu hc hH hob hkb hms
   have hext:=M9 (F:=F) (G:=G) hc.h.fore (.mapIter (some b) cl #[] cl) .iter
   refine Sr (X:=.mapIter (some b) cl #[] cl) hc (by simp [Instr.range,run_underlying hu,Bi,MapKept.run_getObj_map hms]) (λ_ _ _ e=>by cases e) (.inr (.inr ⟨o',b,cl,[],heap_alloc_new _ _, ?_,hx.keep hext.keeps⟩)) hr
   rw [hcl,<- hl]
  ·exact hr.elim
 ·exact hr.elim
def Uh{o:Nat}{u:Value}{cs:List AV}{vs:List AV}{us:List Value}(hc:ES F G vs H us w)(hx:EU G w (.it o) u)(ho:H[o]? =some (some cs)): ∃ b,u = .pointer (some ⟨b,0,none⟩)/\G.obs[o]? =some b/\G.kind b = .iter/\cA G w cs b:=by
 cases hx with
 | it _ b h hb hk =>
  have hi:=(hc.h.obj o cs b ho h).is
  rw [hk] at hi
  exact ⟨b,rfl,h,hk,hi⟩
def UY{vs:List AV}{us:Array Value}(hc : ∃ a ua,ES F G a H ua w)(hl:vs.length=us.size)(hv : ∀ (i:Nat) (c:AV) (u:Value),vs[i]? =some c->us[i]? =some u->c.isVal=true/\c.borrow=c/\EU G w c u):
  EU G w (.tup vs) (.tuple us)/\Gs (.tup vs) (.tuple us)=[]:=by
 have hget : ∀ c∈vs,c.isVal=true/\c.borrow=c:=λc hc'=>by
  obtain ⟨i,hi⟩:=Af hc'
  have hlt:=(AC.1 hi).1
  obtain ⟨h1,h2,_⟩:=hv i c _ hi (Aj FO)
  exact ⟨h1,h2⟩
 refine ⟨.tup _ _ hl (λc hc'=>(hget c hc').1) λi c x h1 h2=>(hv i c x h1 h2).2.2,GM ?_ _⟩
 show ((vs.flatMap AV.cells).any GE)=false
 rw [Bl]
 intro c hc' h
 obtain ⟨v,hv',hcv⟩:=Bh.1 hc'
 obtain ⟨h1,h2⟩:=hget v hv'
 have hb:v.borrow.cells=v.cells.map borrow1:=by cases v<;>first|rfl|cases h1
 rw [<- h2,hb] at hcv
 obtain ⟨d,_,rfl⟩:=AP.1 hcv
 cases d<;>cases h
def Ix{v:AV}(h:v.isVal=true):v.borrow.borrow=v.borrow/\v.borrow.isVal=true:=by
 refine ⟨?_,by cases v<;>first|rfl|cases h⟩
 cases v with
 | agg cs =>
  show AV.agg ((cs.map borrow1).map borrow1)=AV.agg (cs.map borrow1)
  rw [Bx]
  congr 1
  apply List.map_congr_left
  intro c _
  cases c<;>rfl
 | tup _=>cases h
 | _=>rfl
def AE2{o':Nat}{u:Value}{str:Bool}{ty:TypeId}(hc:ES F G [.it o'] H [u] w)(hr:Wi str H o' R):
  Fx P ((do let v<-Instr.next u str ty;pure (Next.value v):Sem Next).run P w) (Fe F G w R):=by
 have hx:=hc.l.rel 0 _ _ rfl rfl
 unfold Wi at hr
 have over:(∃ a ua,ES F G a H ua w)->EU G w (.tup [.bool false]) (.tuple #[.bool false])/\Gs (.tup [.bool false]) (.tuple #[.bool false])=[]:=λh=>UY h rfl λi c x h1 h2=>by
  match i with
  | 0=>simp at h1 h2;subst h1;subst h2;exact ⟨rfl,rfl,.bool false⟩
  | i+1=>simp at h1
 split at hr
 · -- over a string
  rename_i s pos ho
  obtain ⟨b,rfl,hob,hkb,hi⟩:=Uh hc hx ho
  rcases hi with ⟨s',p',h1,h2⟩|⟨_,h2⟩|⟨_,_,_,_,_,h2,_⟩
  ·cases h2
   rw [Aa] at hr
   by_cases hp:p'<s.size
   ·rw [iP hp] at hr
    have hrun:(do let v<-Instr.next (.pointer (some ⟨b,0,none⟩)) true ty;pure (Next.value v):Sem Next).run P w = .ok (.value (.tuple #[.bool true,goInt p',.int .i32 (Utf8.decode s p').1])) (w.putObj b (.stringIter s (p'+(Utf8.decode s p').2))):=by
     simp [Instr.next,getObj,setObj,Db,h1,Bi,hp,World.putObj]
    have hor:=hc.h.obj o' _ b ho hob
    have he2:Ext F G w G (w.putObj b (.stringIter s (p'+(Utf8.decode s p').2))):=Ke hor.own h1 (λ_ _ _ e=>by cases e)
    obtain ⟨g1,g2⟩:=UY (G:=G) (w:=w) (F:=F) (H:=H) (vs:=[.bool true,.int .i64 p',.int .i32 (Utf8.decode s p').1]) (us:=#[.bool true,goInt p',.int .i32 (Utf8.decode s p').1]) ⟨_,_,hc⟩ rfl λi c x k1 k2=>by
     match i with
     | 0=>simp at k1 k2;subst k1;subst k2;exact ⟨rfl,rfl,.bool true⟩
     | 1=>simp at k1 k2;subst k1;subst k2;exact ⟨rfl,rfl,.int _ _⟩
     | 2=>simp at k1 k2;subst k1;subst k2;exact ⟨rfl,rfl,.int _ _⟩
     | i+3=>simp at k1
    obtain ⟨h3,h4⟩:=hc.setSp (X:=.stringIter s (p'+(Utf8.decode s p').2)) ho hob (by rw [hkb];rfl) (λ_ _ _ e=>by cases e) (cs':=V2 s ((p'+(Utf8.decode s p').2:Nat):Int)) ⟨hor.own,by
     rw [hkb];exact .inl ⟨s,_,World.putObj_heap_same hor.lt,rfl⟩⟩ (.cons g1 (Ff g2 F G w) (.nil F G w)) (λx=>by rw [FY,GS,g2];simp)
    rw [hrun]
    exact ⟨_,_,G,hr,h3,h4⟩
   ·rw [iN hp] at hr
    have hrun:(do let v<-Instr.next (.pointer (some ⟨b,0,none⟩)) true ty;pure (Next.value v):Sem Next).run P w = .ok (.value (.tuple #[.bool false])) w:=by
     simp [Instr.next,getObj,Db,h1,Bi,hp]
    rw [hrun]
    exact Fe.plain hc hr (over ⟨_,_,hc⟩).1 (over ⟨_,_,hc⟩).2
  ·cases h2
  ·cases h2
 · -- over no map
  rename_i ho
  obtain ⟨b,rfl,hob,hkb,hi⟩:=Uh hc hx ho
  rcases hi with ⟨s',p',h1,h2⟩|⟨h1,h2⟩|⟨_,_,_,_,_,h2,_⟩
  ·cases h2
  ·have hrun:(do let v<-Instr.next (.pointer (some ⟨b,0,none⟩)) false ty;pure (Next.value v):Sem Next).run P w = .ok (.value (.tuple #[.bool false])) w:=by
    simp [Instr.next,getObj,Db,h1,Bi]
   rw [hrun]
   exact Fe.plain hc hr (over ⟨_,_,hc⟩).1 (over ⟨_,_,hc⟩).2
  ·cases h2
 · -- over a map
  rename_i m since seen ho
  obtain ⟨b,rfl,hob,hkb,hi⟩:=Uh hc hx ho
  rcases hi with ⟨s',p',h1,h2⟩|⟨h1,h2⟩|⟨om,mb,si,se,h1,h2,h3⟩
  ·cases h2
  ·cases h2
  ·simp only [Tg,List.cons.injEq,AV.mapr.injEq,AV.int.injEq,AV.tup.injEq,and_true,true_and] at h2
   obtain ⟨rfl,rfl,rfl⟩:=h2
   split at hr
   ·rename_i es he
    obtain ⟨hs,hend,hstep⟩:=hr
    rw [lH] at hend hstep
    rcases Sj hc h3 he with ⟨h,_⟩|⟨o,b2,ms,cl,ho2,hb2,hob2,hkb2,hms,hl,hH,hrel⟩
    ·cases h
    cases ho2;cases hb2
    obtain ⟨hcl,hborn⟩:=Lu hc hH hob2 hkb2 hms
    have hsi:si=es.length:=FO
    have hin : ∀ e∈(leftOf ms se.toArray).toList,∃ i:Nat,ms[i]? =some e/\e.born=i/\i∉se:=λe he'=>by
     unfold leftOf at he'
     rw [D9,CW] at he'
     obtain ⟨i,hi⟩:=Af he'.1
     rw [Ae] at hi
     refine ⟨i,hi,hborn i e hi,λhse=>?_⟩
     have:=he'.2
     rw [hborn i e hi] at this
     simp [hse] at this
    rcases run_next_at (P:=P) w ty b mb si si se.toArray ms cl h1 hms (λx hx'=>by
      obtain ⟨i,hi⟩:=Af hx'
      rw [Ae] at hi
      rw [hborn i x hi]
      have:=(Ao.1 hi).1
      omega) (AU _) with ⟨g1,g2⟩|⟨e,g1,w1,g2,g3⟩
    ·rw [AJ,g2]
     refine Fe.plain hc (hend λi hi=>?_) (over ⟨_,_,hc⟩).1 (over ⟨_,_,hc⟩).2
     cases hd:decide (i∈se) with
     | true=>exact AP.2 ⟨i,of_decide_eq_true hd,rfl⟩
     | false =>
      exfalso
      have hlt:i<ms.size:=FO
      have hm:ms[i]∈(leftOf ms se.toArray).toList:=by
       unfold leftOf
       rw [D9,CW]
       refine ⟨sm, ?_⟩
       rw [hborn i ms[i] (Aj hlt)]
       simpa using hd
      have:(leftOf ms se.toArray).toList.length=0:=by simpa using g1
      rw [List.length_eq_zero_iff.1 this] at hm
      cases hm
    ·obtain ⟨i,hi,hbi,hns⟩:=hin e g1
     have hlt:=(Ao.1 hi).1
     obtain ⟨p,hp⟩ : ∃ p,es[i]? =some p:=⟨_,AL FO⟩
     obtain ⟨r1,r2,r3,r4⟩:=hrel i p e hp hi
     have hstep:=hstep i p hp (λhm=>by
      obtain ⟨j,hj,hj2⟩:=AP.1 hm
      have:j=i:=FO
      subst this
      exact hns hj)
     rw [AJ,g3]
     have fin : ∀ w1:World,ES F G [.it o'] H [.pointer (some ⟨b,0,none⟩)] w1->Ext F G w G w1->w1.heap=w.heap ->
       Fe F G w R (.tuple #[.bool true,e.key,e.val]) (ChangeMaps.setBlock w1 b (.mapIter (some mb) si (se.toArray.push e.born) cl)):=by
      intro w1 hc1 hext1 hh1
      have hor:=hc1.h.obj o' _ b ho hob
      have hb1:w1.heap[b]? =some (.mapIter (some mb) si se.toArray si):=by rw [hh1];exact h1
      have he2:Ext F G w1 G (w1.putObj b (.mapIter (some mb) si (se.toArray.push e.born) cl)):=Ke hor.own hb1 (λ_ _ _ e=>by cases e)
      obtain ⟨k1,k2⟩:=UY (G:=G) (w:=w1) (F:=F) (H:=H) (vs:=[.bool true,p.1.borrow,p.2.borrow]) (us:=#[.bool true,e.key,e.val]) ⟨_,_,hc1⟩ rfl λj c x m1 m2=>by
       match j with
       | 0=>simp at m1 m2;subst m1;subst m2;exact ⟨rfl,rfl,.bool true⟩
       | 1=>simp at m1 m2;subst m1;subst m2;exact ⟨(Ix r1).2,(Ix r1).1,(r3.keep hext1.keeps).borrow⟩
       | 2=>simp at m1 m2;subst m1;subst m2;exact ⟨(Ix r2).2,(Ix r2).1,(r4.keep hext1.keeps).borrow⟩
       | j+3=>simp at m1
      obtain ⟨h5,h6⟩:=hc1.setSp (X:=.mapIter (some mb) si (se.toArray.push e.born) cl) ho hob (by rw [hkb];rfl) (λ_ _ _ e=>by cases e) (cs':=[.mapr m,.int .i64 (si:Int),.tup ((se.map λ(i:Nat)=>AV.int .i64 (i:Int))++[.int .i64 (i:Int)])]) ⟨hor.own,by
       rw [hkb]
       refine .inr (.inr ⟨m,mb,si,se++[i], ?_,by simp [Tg],((h3.keep hext1.keeps).keep he2.keeps)⟩)
       have e1:cl=si:=FO
       have e2:se.toArray.push e.born=(se++[i]).toArray:=by rw [hbi];simp
       rw [World.putObj_heap_same hor.lt,e1,e2]⟩ (.cons k1 (Ff k2 F G w1) (.nil F G w1)) (λx=>by rw [FY,GS,k2];simp)
      exact ⟨_,_,G,hstep,h5,hext1.trans h6⟩
     rcases g2 with rfl|rfl
     ·exact fin _ hc (Ext.refl F G _) rfl
     ·exact fin _ hc.draw Hy rfl
   ·exact hr.elim
 ·exact hr.elim
def AAh{o':Nat}{u:Value}(hc:ES F G [.it o'] H [u] w)(hr:S8 H o' R):
  Fx P ((do let v<-Instr.entry u;pure (Next.value v):Sem Next).run P w) (Fe F G w R):=by
 have hx:=hc.l.rel 0 _ _ rfl rfl
 unfold S8 at hr
 split at hr
 ·rename_i m since seen ho
  obtain ⟨b,rfl,hob,hkb,hi⟩:=Uh hc hx ho
  rcases hi with ⟨s',p',h1,h2⟩|⟨h1,h2⟩|⟨om,mb,si,se,h1,h2,h3⟩
  ·cases h2
  ·cases h2
  ·simp only [Tg,List.cons.injEq,AV.mapr.injEq,AV.int.injEq,AV.tup.injEq,and_true,true_and] at h2
   obtain ⟨rfl,rfl,rfl⟩:=h2
   split at hr
   ·rename_i es i he hlast
    obtain ⟨hs,p,hp,hR⟩:=hr
    rcases Sj hc h3 he with ⟨h,_⟩|⟨o,b2,ms,cl,ho2,hb2,hob2,hkb2,hms,hl,hH,hrel⟩
    ·cases h
    cases ho2;cases hb2
    obtain ⟨hcl,hborn⟩:=Lu hc hH hob2 hkb2 hms
    have hlast2 : ∃ j:Nat,se.getLast? =some j/\i=(j:Int):=by
     rw [List.getLast?_map] at hlast
     cases hj:se.getLast? with
     | none=>rw [hj] at hlast;cases hlast
     | some j=>rw [hj] at hlast;simp at hlast;exact ⟨j,rfl,hlast.symm⟩
    obtain ⟨j,hj,rfl⟩:=hlast2
    rw [Aa] at hp
    have hlt:=(AC.1 hp).1
    have hmj:ms[j]? =some (ms[j]' FO):=Aj _
    obtain ⟨se',rfl⟩ : ∃ se',se=se'++[j]:=⟨se.dropLast,by
     cases hse:se with
     | nil=>rw [hse] at hj;cases hj
     | cons x xs =>
      rw [hse] at hj
      rw [List.getLast?_eq_some_getLast sm] at hj
      cases hj
      exact (List.dropLast_concat_getLast sm).symm⟩
    have e2:((se'++[j]).toArray:Array Nat)=se'.toArray.push (ms[j]' FO).born:=by rw [hborn j _ hmj];simp
    have e1:cl=si:=FO
    have hrun:=run_entry_at (P:=P) w b mb si se'.toArray ms cl (ms[j]' FO) (by rw [<- e2,e1];exact h1) hms sm (by
     have:ms.toList.map (·.born)=Am ms.size:=by
      refine A5 λk=>?_
      rw [Ab,Ae]
      by_cases hk:k<ms.size
      ·rw [Aj hk,CV hk]
       simp [hborn k _ (Aj hk)]
      ·rw [Array.getElem?_eq_none FO,Az (by simp;omega)];rfl
     rw [this];exact List.nodup_range)
    rw [AJ,hrun]
    obtain ⟨r1,r2,r3,r4⟩:=hrel j p _ hp hmj
    obtain ⟨k1,k2⟩:=UY (G:=G) (w:=w) (F:=F) (H:=H) (vs:=[p.1.borrow,p.2.borrow]) (us:=#[(ms[j]' FO).key,(ms[j]' FO).val]) ⟨_,_,hc⟩ rfl λk c x m1 m2=>by
     match k with
     | 0=>simp at m1 m2;subst m1;subst m2;exact ⟨(Ix r1).2,(Ix r1).1,r3.borrow⟩
     | 1=>simp at m1 m2;subst m1;subst m2;exact ⟨(Ix r2).2,(Ix r2).1,r4.borrow⟩
     | k+2=>simp at m1
    exact Fe.plain hc hR k1 k2
   ·exact hr.elim
 ·exact hr.elim
end
end Go.AI
namespace Go.AI
section
variable {P:Program} {F:Nat->Prop} {G:Gh} {w:World} {H:FP} {R:AV->FP->Prop}
def ef{t e ty ob off len sz c:Nat}{u:Value}{ts:Array TypeId}(hc:ES F G [.mslc ob off len sz c] H [u] w)(ht:ts[0]? =some t)(hu:P.underlying t=some (.slice e))(hr:R (.int .i64 len) H):
  Fx P ((do let r<-Builtin.len_ ts ty #[u];pure (Next.value r):Sem Next).run P w) (Fe F G w R):=by
 have hx:=hc.l.rel 0 _ _ rfl rfl
 cases hx
 exact .value (by simp [Builtin.len_,ht,run_underlying hu,goInt]) (Fe.plain hc hr (.int _ _) (FT rfl rfl _))
def eh{t e ty ob off len sz c:Nat}{u:Value}{ts:Array TypeId}(hc:ES F G [.mslc ob off len sz c] H [u] w)(ht:ts[0]? =some t)(hu:P.underlying t=some (.slice e))(hr:R (.int .i64 c) H):
  Fx P ((do let r<-Builtin.cap_ ts ty #[u];pure (Next.value r):Sem Next).run P w) (Fe F G w R):=by
 have hx:=hc.l.rel 0 _ _ rfl rfl
 cases hx
 exact .value (by simp [Builtin.cap_,ht,run_underlying hu,goInt]) (Fe.plain hc hr (.int _ _) (FT rfl rfl _))
def XS {t e ob off len sz c:Nat} {u:Value} {rest:List AV} {urest:List Value} {lo hi mx:Option Value} {l h:Option Int} (hc:ES F G (.mslc ob off len sz c::rest) H (u::urest) w) (hu:P.underlying t=some (.slice e))
  (hl:ET lo l) (hh:ET hi h) (hm:ET mx none)
  (h0:0<=l.getD 0) (h1:l.getD 0<=h.getD len) (h2:h.getD len<=c) (hs:sz=P.cellsOf e) (hz : ∃ i,P.info? e=some i)
  (hr:R (if l.getD 0=c/\0<l.getD 0 then .sl none [] else .mslc ob (off+(l.getD 0).toNat*sz) ((h.getD len).toNat - (l.getD 0).toNat) sz (c - (l.getD 0).toNat)) H) :
  Fx P ((do let r<-Instr.sliceAt t u lo hi mx;pure (Next.value r):Sem Next).run P w) (Fe F G w R):=by
 have hrel:=hc.l.rel 0 _ _ rfl rfl
 obtain ⟨i,hi'⟩:=hz
 have hsize : ∀ w,(sizeOf e).run P w = .ok (P.cellsOf e) w:=λw=>by simp [sizeOf,typeInfo,hi',BI]
 cases hrel with
 | mslc _ _ _ _ _ b hob hlc hmx hrow =>
  obtain ⟨C,E,hrow,hfit⟩:=hrow
  have hb:=HG (P:=P) (isSlice:=true) (len:=len) (cap:=c) hl hh hm (λh=>by cases h) h0 h1 (by simp only [BG];omega) sm w
  by_cases hb0:l.getD 0=c/\0<l.getD 0
  ·rw [iP hb0] at hr
   have hcl:c=(l.getD 0).toNat:=FO
   have hrun:(Instr.sliceAt t (.slice (some ⟨b,off,none⟩) len c) lo hi mx).run P w = .ok (.slice (some ⟨b,off,none⟩) 0 0) w:=by
    simp only [Instr.sliceAt,Instr.slice,AJ,run_underlying hu,AZ,hb,hsize,BG,Aa]
    have e1:(h.getD len).toNat - (l.getD 0).toNat=0:=FO
    have e2:c - (l.getD 0).toNat=0:=FO
    rw [iP hcl,e1,e2];simp
   exact .value (by rw [AJ,hrun];rfl) (Fe.plain hc hr (.slany none _) (by simp [Gs,LE,AV.flat,AV.cells,IA,Value.cells,tok]))
  rw [iN hb0] at hr
  have h3:l.getD 0=0\/l.getD 0<c:=FO
  have hrun:(Instr.sliceAt t (.slice (some ⟨b,off,none⟩) len c) lo hi mx).run P w = .ok (.slice (some ⟨b,off+(l.getD 0).toNat*sz,none⟩) ((h.getD len).toNat - (l.getD 0).toNat) (c - (l.getD 0).toNat)) w:=by
   simp only [Instr.sliceAt,Instr.slice,AJ,run_underlying hu,AZ,hb,hsize,BG,Aa]
   subst hs
   by_cases hcl:c=(l.getD 0).toNat
   ·have e0:(l.getD 0).toNat=0:=FO
    rw [iP hcl,e0];simp
   ·rw [iN hcl]
    simp [G9]
  have hmul:c*sz=(l.getD 0).toNat*sz+(c - (l.getD 0).toNat)*sz:=by
   rw [<- A2];congr 1;omega
  exact .value (by rw [AJ,hrun];rfl) (Fe.plain hc hr (.mslc _ _ _ _ _ b hob FO FO  ⟨C,E,hrow,FO⟩) (FT rfl rfl _))
def iH {e:TypeId} {vals:List AV} {us:List Value} {ob off k b len cap:Nat} {cs:List AV} (hc:ES F G vals H us w) (ho:H[ob]? =some (some cs)) (hb:G.obs[ob]? =some b) (hbc : ∃ (C:Array Value) (E:TypeId),w.heap[b]? =some (.cells C E (0,0)))
  (hle:off+k*P.cellsOf e<=cs.length) : ∃ news:List Value,(Builtin.firstCells (P.cellsOf e) k (.slice (some ⟨b,off,none⟩) len cap)).run P w = .ok news.toArray w/\news.length=k*P.cellsOf e/\(∀ v∈news,v.oneCell'=true) /\
   ∀ (i:Nat) (c:AV),((cs.drop off).take (k*P.cellsOf e))[i]? =some c->c.scalar=true /\ ∃ v,news[i]? =some v/\EU G w c v:=by
 obtain ⟨C,E,hrow,hCs,hC⟩:=hc.h.at_obj ho hb hbc
 refine ⟨(C.toList.drop off).take (k*P.cellsOf e),run_firstCells_some (P:=P) w (P.cellsOf e) k _ _ _ _ (by simp;omega) (λj v hv=>?_),by simp;omega,λv hv=>?_,λi c hi=>?_⟩
 ·rw [Ak] at hv
  split at hv
  ·rw [A1,Ae] at hv
   rw [G9,cell_of_row _ _ _ C E _ hrow];exact hv
  ·cases hv
 ·obtain ⟨j,hj⟩:=Af hv
  rw [Ak] at hj
  split at hj
  ·rename_i hlt
   rw [A1] at hj
   have hd:cs[off+j]? =some (cs[off+j]' FO):=AL _
   obtain ⟨g1,g2,_⟩:=hC.at_ (off+j) _ v hd (by rw [Ak,iP FO];exact hj)
   exact NX g1 g2
  ·cases hj
 ·rw [Ak] at hi
  split at hi
  ·rename_i hlt
   rw [A1] at hi
   have hlt2:off+i<C.size:=FO
   have hv:C[off+i]? =some (C[off+i]):=Aj hlt2
   obtain ⟨g1,g2,_⟩:=hC.at_ (off+i) c (C[off+i]) hi (by rw [Ak,iP FO,Ae];exact hv)
   exact ⟨g1,_,by rw [Ak,iP hlt,A1,Ae];exact hv,g2⟩
  ·cases hi
def AFg{e:TypeId}{a b:AV}{u v:Value}{X:List AV}{k n:Nat}(hc:ES F G [a,b] H [u,v] w)(hs:iI P e H k b=some X)(hn:zX b=some n):
  (Builtin.lenOf v).run P w = .ok n w /\ ∃ news:List Value,(Builtin.firstCells (P.cellsOf e) k v).run P w = .ok news.toArray w/\news.length=k*P.cellsOf e/\X.length=k*P.cellsOf e/\(∀ v∈news,v.oneCell'=true) /\
   ∀ (i:Nat) (c:AV),X[i]? =some c->c.scalar=true /\ ∃ v,news[i]? =some v/\EU G w c v:=by
 have hx:=hc.l.rel 1 _ _ rfl rfl
 unfold iI at hs
 split at hs
 ·rename_i own xs
  split at hs
  ·rename_i hcond
   cases hs
   cases hn
   have hcl:=G6 hcond.1
   have hkl:k*P.cellsOf e<=xs.length*P.cellsOf e:=BF _ hcond.2
   rcases L7 hcond.1 hx with ⟨rfl,rfl⟩|⟨ad,c,news,rfl,hnl,hnews,hone,hcell⟩
   ·have hk0:k=0:=by simpa using hcond.2
    subst hk0
    refine ⟨by simp [Builtin.lenOf],[],by simp [Builtin.firstCells],sm,sm,λv hv=>by simp at hv,λi c hi=>by simp at hi⟩
   ·refine ⟨by simp [Builtin.lenOf],news.take (k*P.cellsOf e),run_firstCells_some (P:=P) w (P.cellsOf e) k _ _ _ _ (by simp;omega) (λj v hv=>?_),by simp;omega,by simp;omega,λv hv=>hone v (List.mem_of_mem_take hv),λi c hi=>?_⟩
    ·rw [Ak] at hv
     split at hv
     ·exact hnews j v hv
     ·cases hv
    ·rw [Ak] at hi
     split at hi
     ·rename_i hlt
      obtain ⟨s1,v,s2,s3⟩:=hcell i c hi
      exact ⟨s1,v,by rw [Ak,iP hlt];exact s2,s3⟩
     ·cases hi
  ·cases hs
 ·rename_i ob off len sz
  split at hs
  ·rename_i cs ho
   split at hs
   ·rename_i hcond
    cases hs;cases hn
    obtain ⟨hle,rfl,hkl⟩:=hcond
    cases hx with
    | msl _ _ _ _ b cap hb hl hm hrow =>
     obtain ⟨C,E,hrow,_⟩:=hrow
     obtain ⟨news,h1,h2,h3,h4⟩:=iH (P:=P) (e:=e) (len:=n) (cap:=cap) hc ho hb ⟨C,E,hrow⟩ hle
     exact ⟨by simp [Builtin.lenOf],news,h1,h2,by simp;omega,h3,h4⟩
   ·cases hs
  ·cases hs
 ·rename_i ob off len sz c
  split at hs
  ·rename_i cs ho
   split at hs
   ·rename_i hcond
    cases hs;cases hn
    obtain ⟨hle,rfl,hkl⟩:=hcond
    cases hx with
    | mslc _ _ _ _ _ b hb hl hm hrow =>
     obtain ⟨C,E,hrow,_⟩:=hrow
     obtain ⟨news,h1,h2,h3,h4⟩:=iH (P:=P) (e:=e) (len:=n) (cap:=c) hc ho hb ⟨C,E,hrow⟩ hle
     exact ⟨by simp [Builtin.lenOf],news,h1,h2,by simp;omega,h3,h4⟩
   ·cases hs
  ·cases hs
 ·cases hs
def qG {t t2 e ty ob off len sz n:Nat} {dst sv:AV} {X cs:List AV} {u v:Value} {b cap:Nat} (hc:ES F G [dst,sv] H [u,v] w) (hu:P.underlying t=some (.slice e)) (hsz:sz=P.cellsOf e) (hz:(P.info? e).isSome=true)
  (hub:u = .slice (some ⟨b,off,none⟩) len cap) (hob:G.obs[ob]? =some b) (hrow0 : ∃ (C:Array Value) (E:TypeId),w.heap[b]? =some (.cells C E (0,0))/\off+cap*sz<=C.size) (hlc:len<=cap)
  (ho:H[ob]? =some (some cs)) (hcb:cs.map borrow1=cs) (hoff:off<=cs.length) (hn:zX sv=some n) (hs:iI P e H (Nat.min n len) sv=some X)
  (hr:R (.int .i64 (Nat.min n len:Nat)) (H.set ob (some (cs.take off++X.map borrow1++cs.drop (off+Nat.min n len*sz))))) :
  Fx P ((do let r<-Builtin.copy_ #[t,t2] ty #[u,v];pure (Next.value r):Sem Next).run P w) (Fe F G w R):=by
 subst hsz hub
 obtain ⟨hlen,news,hf,hnl,hXl,hone,hcell⟩:=AFg hc hs hn
 obtain ⟨i,hi'⟩:=Bg.1 hz
 have hsize : ∀ w,(sizeOf e).run P w = .ok (P.cellsOf e) w:=λw=>by simp [sizeOf,typeInfo,hi',BI]
 obtain ⟨C0,E0,hrow0,hfit0⟩:=hrow0
 obtain ⟨C,E,hrow,hCs,hC⟩:=hc.h.at_obj ho hob ⟨C0,E0,hrow0⟩
 have hfit:off+Nat.min n len*P.cellsOf e<=C.size:=by
  rw [hrow0] at hrow
  cases hrow
  have h1:Nat.min n len<=cap:=AK (Nat.min_le_right _ _) hlc
  have:=BF (P.cellsOf e) h1
  omega
 generalize hk:Nat.min n len=k at *
 have hst:=run_storeCells_at P b off E news 0 C w hrow FO hone
 simp only [BB] at hst
 let C':Array Value:=(C.toList.take off++news++C.toList.drop (off+news.length)).toArray
 have hC':C'=(C.toList.take off++news++C.toList.drop (off+news.length)).toArray:=rfl
 have hsize':C'.size=C.size:=by rw [hC'];simp;omega
 have hrun:(Builtin.copy_ #[t,t2] ty #[.slice (some ⟨b,off,none⟩) len cap,v]).run P w = .ok (goInt k) (w.setRow b C'):=by
  simp [Builtin.copy_,run_underlying hu,hlen,hk,hsize,hf,hst,hC']
 have hold : ∀ (i:Nat) (d:AV) (x:Value),cs[i]? =some d->C[i]? =some x->d.scalar=true/\EU G w d x/\d=borrow1 d:=by
  intro i d x hd hx'
  have hi':=(AC.1 hd).1
  obtain ⟨g1,g2,_⟩:=hC.at_ i d x hd (by rw [Ak,iP hi',Ae];exact hx')
  refine ⟨g1,g2, ?_⟩
  have:(cs.map borrow1)[i]? =some (borrow1 d):=by rw [Ab,hd];rfl
  rw [hcb,hd] at this
  exact Option.some.inj this
 have hcs':cs.take off++X.map borrow1++cs.drop (off+k*P.cellsOf e)=(cs.take off++X++cs.drop (off+k*P.cellsOf e)).map borrow1:=by
  rw [Ar,Ar,EA,Dc,hcb]
 have htl:(C.toList.take off).length=off:=by simp;omega
 have hct:(cs.take off).length=off:=by simp;omega
 have hset:=hc.setObj ho hob hrow (C':=C') hsize' (cs':=cs.take off++X.map borrow1++cs.drop (off+k*P.cellsOf e)) (by rw [hsize'];simp;omega)
  (λi d x hd hx'=>by
   rw [hC',Bf] at hx'
   by_cases hlt:i<off
   ·rw [AE,AT FO,Ak,iP hlt] at hd
    rw [AE,AT FO,Ak,iP hlt,Ae] at hx'
    obtain ⟨g1,g2,g3⟩:=hold i d x hd hx'
    exact ⟨g1,g2,F7 (by rw [g3];exact Gc d _)⟩
   ·rw [AE,AM FO,hct] at hd
    rw [AE,AM FO,htl] at hx'
    by_cases hlt2:i - off<k*P.cellsOf e
    ·rw [AT (by simpa [hXl] using hlt2),Ab] at hd
     rw [AT FO] at hx'
     cases hci:X[i - off]? with
     | none=>rw [hci] at hd;cases hd
     | some c =>
      rw [hci] at hd
      cases hd
      obtain ⟨s1,v,s2,s3⟩:=hcell _ c hci
      rw [s2] at hx'
      cases hx'
      exact ⟨(GT c).trans s1,s3.borrow1,F7 (Gc c _)⟩
    ·rw [AM (by simpa [hXl] using hlt2),A1,Aq,hXl] at hd
     rw [AM FO,A1,hnl,Ae] at hx'
     have e1:off+k*P.cellsOf e+(i - off - k*P.cellsOf e)=i:=FO
     rw [e1] at hd hx'
     obtain ⟨g1,g2,g3⟩:=hold i d x hd hx'
     exact ⟨g1,g2,F7 (by rw [g3];exact Gc d _)⟩) (vs:=[.int .i64 (k:Int)]) (us':=[goInt k]) (.cons (.int _ _) (Ff (FT rfl rfl _) F G w) (.nil F G w)) (λx=>by
  rw [hcs',I0,FY,GS,FT rfl rfl];simp)
 exact .value (by rw [AJ,hrun];rfl) ⟨_,_,G,hr,hset.1,hset.2⟩
def T4 {t t2 e ty ob off len sz c m:Nat} {kq kn:IntKind} {cs:List AV} {z:AV} {u v:Value} (hc:ES F G [.mslc ob off len sz c,.int kq (m:Int)] H [u,v] w) (ho:H[ob]? =some (some cs)) (hu:P.underlying t=some (.slice e)) (hu2:P.underlying t2=some (.int kn))
  (hpos:0<P.cellsOf e) (hsz:sz=P.cellsOf e) (hle:off+len*sz<=cs.length) (hzv:Fi P e=some z) (hzl:z.cells.length=P.cellsOf e) (hz:Gj P e=true) (hm0:0<m) (hroom:c<len+m) (hb:(len+m)*P.bytesOf e<=140737488355328) (yc:len+m<=9223372036854775807)
  (hr:R (.msl H.length 0 (len+m) (P.cellsOf e)) (H++[some (((cs.drop off).take (len*sz)).map borrow1++(Ga z m).map borrow1)])) :
  Fx P ((do let r<-Builtin.append_ #[t,t2] ty #[u,v];pure (Next.value r):Sem Next).run P w) (Fe F G w R):=by
 subst hsz
 have hs:=hc.l.rel 0 _ _ rfl rfl
 have hv:=hc.l.rel 1 _ _ rfl rfl
 cases hv
 unfold Gj at hz
 split at hz
 case h_2=>cases hz
 rename_i i hi
 split at hz
 case h_2=>cases hz
 rename_i zv hz'
 have hcz:zv.cells.size=i.size:=by simpa using hz
 have hce:P.cellsOf e=i.size:=by simp [BI,hi]
 have hbe:P.bytesOf e=i.bytes:=by simp [Ch,hi]
 rw [hbe] at hb
 have hlen:=hc.h.len
 obtain ⟨zv2,hrunz,hval,hczz,htz⟩:=Mi hzv
 have hzz:zv=zv2:=by
  have:=hrunz w
  simpa [zeroValue,typeInfo,hi,hz'] using this
 subst hzz
 have hz0:=hczz F G w
 cases hs with
 | mslc _ _ _ _ _ b hob hl hm hrow0 =>
  obtain ⟨C0,E0,hrow0,hfit0⟩:=hrow0
  obtain ⟨C,E,hrow,hCs,hC⟩:=hc.h.at_obj ho hob ⟨C0,E0,hrow0⟩
  let olds:List Value:=(C.toList.drop off).take (len*P.cellsOf e)
  have holds:olds=(C.toList.drop off).take (len*P.cellsOf e):=rfl
  have hol:olds.length=len*P.cellsOf e:=by rw [holds];simp;omega
  have hof:=run_firstCells_some (P:=P) w.drew i.size len ⟨b,off,none⟩ len c olds (by rw [hol,hce]) (λj v hv=>by
   show w.drew.cell? _=_
   rw [G9]
   have:w.cell? ⟨b,off+j,none⟩=some v:=by
    rw [cell_of_row _ _ _ C E _ hrow]
    rw [holds,Ak] at hv
    split at hv
    ·rwa [A1,Ae] at hv
    ·cases hv
   simpa using this)
  have hrun:=Go.Lib.run_append_grow_zeros (P:=P) w t t2 ty e i zv kq kn hu hu2 hi hz' (some ⟨b,off,none⟩) len c olds hof m hm0 FO hroom FO (AK (BF i.bytes (Nat.le_add_left m len)) FO) (growslice_fits FO hb)
  have hd:=hc.draw
  have hge:=grownCap_ge w (len+m) c e
  have hcm:grownCap w (len+m) c e<=maxLen:=grownCap_le_maxLen w _ c e (by unfold maxLen;omega)
  have hzs : ∀ k,(Builtin.zeroCells zv.cells k).size=k*P.cellsOf e:=λk=>by rw [size_zeroCells,hcz,hce]
  have hXl:(Ga z m).length=m*P.cellsOf e:=by simp [Ga,hzl]
  have hsize:(olds.toArray++Builtin.zeroCells zv.cells m++Builtin.zeroCells zv.cells (grownCap w (len+m) c e - (len+m))).size=grownCap w (len+m) c e*P.cellsOf e:=by
   simp only [Ci,BV,hzs,hol,<- A2]
   congr 1;omega
  have hgl : ∀ j,j<m*P.cellsOf e->(Ga z m)[j]? =z.cells[j % P.cellsOf e]?/\(olds.toArray++Builtin.zeroCells zv.cells m++Builtin.zeroCells zv.cells (grownCap w (len+m) c e - (len+m)))[len*P.cellsOf e+j]? =zv.cells.toList[j % P.cellsOf e]?:=by
   intro j hj
   have hmod:j % P.cellsOf e<P.cellsOf e:=C7 _ hpos
   constructor
   ·unfold Ga
    rw [Ab,CV (by rw [hzl];exact hj),hzl,BU,AL FO];rfl
   ·rw [Da (by simp [hzs,hol];omega),Array.getElem?_append_right (by simp [hol])]
    have e0:len*P.cellsOf e+j - olds.toArray.size=j:=by simp [hol]
    rw [e0]
    have e1:(Builtin.zeroCells zv.cells m)[j]? =some (zv.cells[j % zv.cells.size]!):=by
     simp [Builtin.zeroCells,hcz,<- hce,hj]
    rw [e1,hcz,<- hce,Ae]
    have:j % P.cellsOf e<zv.cells.size:=FO
    rw [Aj this,getElem!_pos zv.cells _ this]
  have hrel : ∀ (i:Nat) (d:AV) (x:Value),(((cs.drop off).take (len*P.cellsOf e)).map borrow1++(Ga z m).map borrow1)[i]? =some d->(olds.toArray++Builtin.zeroCells zv.cells m++Builtin.zeroCells zv.cells (grownCap w (len+m) c e - (len+m)))[i]? =some x->d.scalar=true/\EU G w d x/\d=borrow1 d:=by
   intro i d x hd hx
   have hl1:(((cs.drop off).take (len*P.cellsOf e)).map borrow1).length=len*P.cellsOf e:=by simp;omega
   by_cases hlt:i<len*P.cellsOf e
   ·rw [AT FO,Ab,Ak,iP hlt,A1] at hd
    rw [Array.append_assoc,Da (by simpa [hol] using hlt),Bf,holds,Ak,iP hlt,A1] at hx
    cases hci:cs[off+i]? with
    | none=>rw [hci] at hd;cases hd
    | some c0 =>
     rw [hci] at hd;cases hd
     have hlt3:=(AC.1 hci).1
     obtain ⟨g1,g2,_⟩:=hC.at_ _ c0 x hci (by rw [Ak,iP hlt3];exact hx)
     exact ⟨(GT c0).trans g1,g2.borrow1,(by cases c0<;>rfl)⟩
   ·obtain ⟨j,rfl⟩ : ∃ j,i=len*P.cellsOf e+j:=⟨i - len*P.cellsOf e,FO⟩
    rw [AM FO,hl1,Nat.add_sub_cancel_left] at hd
    rw [Ab] at hd
    have hj:j<m*P.cellsOf e:=by
     have:=(AC.1 ((Ab ..).trans hd)).1
     rw [Aq] at this;omega
    obtain ⟨g1,g2⟩:=hgl j hj
    rw [g1] at hd
    rw [g2] at hx
    cases hz1:z.cells[j % P.cellsOf e]? with
    | none=>rw [hz1] at hd;cases hd
    | some d0 =>
     rw [hz1] at hd;cases hd
     obtain ⟨s1,s2,_⟩:=hz0.at_ _ d0 x hz1 hx
     exact ⟨(GT d0).trans s1,s2.borrow1,by cases d0<;>rfl⟩
  refine .value (by rw [AJ,hrun];rfl) ⟨_,_,_,hr, ?_,Hy.trans (IQ hd.h.fore _)⟩
  exact hd.newObj (((cs.drop off).take (len*P.cellsOf e)).map borrow1++(Ga z m).map borrow1) (olds.toArray++Builtin.zeroCells zv.cells m++Builtin.zeroCells zv.cells (grownCap w (len+m) c e - (len+m))) e
   (by rw [hsize];simp [hXl];rw [Nat.min_eq_left FO,<- A2];exact BF _ hge)
   (λi d x h1 h2=>by
    obtain ⟨g1,g2,g3⟩:=hrel i d x h1 h2
    exact ⟨g1,g2.keep (Hy (F:=F)).keeps,F7 (by rw [g3];exact Gc d _)⟩)
   (λx=>by
    have:((((cs.drop off).take (len*P.cellsOf e)).map borrow1++(Ga z m).map borrow1).zip (olds.toArray++Builtin.zeroCells zv.cells m++Builtin.zeroCells zv.cells (grownCap w (len+m) c e - (len+m))).toList).filterMap tok=[]:=by
     rw [B3]
     intro p hp
     obtain ⟨i,hi⟩:=Af hp
     rw [Bc] at hi
     obtain ⟨g1,g2,g3⟩:=hrel i p.1 p.2 hi.1 (by rw [<- Ae];exact hi.2)
     obtain ⟨p1,p2⟩:=p
     simp only at g3
     rw [g3];exact Gc p1 p2
    rw [this];simp)
   (v:=.msl H.length 0 (len+m) (P.cellsOf e)) (u:=.slice (some ⟨w.heap.size,0,none⟩) (len+m) (grownCap w (len+m) c e))
   (.msl _ _ _ _ w.heap.size _ (by
    show (G.obs++[w.drew.heap.size])[H.length]? =_
    rw [AM FO,hlen];simp) hge hcm ⟨_,e,heap_alloc_new _ _,by rw [hsize];omega⟩) (FT rfl rfl _)
def eZ {tS tR e ob ob2 off off2 len len2 sz sz2 c2:Nat} {u v:Value} (hc:ES F G [.msl ob off len sz,.mslc ob2 off2 len2 sz2 c2] H [u,v] w) (hne:ob≠ob2) (hu:P.underlying tS=some (.slice e)) (hz:(P.info? e).isSome=true) (hl : ∃ cs,H[ob]? =some (some cs)) (hl2 : ∃ cs,H[ob2]? =some (some cs)) (hp:0<len2*sz2)
  : (Extern.SlicesOverlaps.overlaps #[tS,tS] #[tR] #[u,v]).run P w = .ok (.bool false) w:=by
 have hx:=hc.l.rel 0 _ _ rfl rfl
 have hy:=hc.l.rel 1 _ _ rfl rfl
 obtain ⟨i,hi'⟩:=Bg.1 hz
 have hsize : ∀ w,(sizeOf e).run P w = .ok (P.cellsOf e) w:=λw=>by simp [sizeOf,typeInfo,hi',BI]
 obtain ⟨cs,hl⟩:=hl
 obtain ⟨cs2,hl2⟩:=hl2
 cases hx with
 | msl _ _ _ _ b cap hb hlc hm hrow =>
  cases hy with
  | mslc _ _ _ _ _ b2 hb2 hlc2 hm2 hrow2 =>
   obtain ⟨C,E,hrow,hfit⟩:=hrow
   obtain ⟨C2,E2,hrow2,hfit2⟩:=hrow2
   have hbb:b≠b2:=by
    rintro rfl
    exact hne (hc.h.inj _ _ _ _ _ hl hl2 hb hb2)
   have hcs:0<C2.size:=by
    have:=BF sz2 hlc2
    omega
   refine Go.Lib.run_overlaps_apart w tS tR e hu _ hsize ⟨b,off,none⟩ ⟨b2,off2,none⟩ len cap len2 c2 hbb E E2 C.size C2.size ?_ ?_ FO ?_ ?_
   ·simp [World.shape?,hrow]
   ·simp [World.shape?,hrow2]
   ·simp [World.frozen?,hrow]
   ·simp [World.frozen?,hrow]
def AAl{t t2 ty:Nat}{a b:AV}{u v:Value}(hc:ES F G [a,b] H [u,v] w)(hr:Tn P t a b H R):
  Fx P ((do let r<-Builtin.copy_ #[t,t2] ty #[u,v];pure (Next.value r):Sem Next).run P w) (Fe F G w R):=by
 unfold Tn at hr
 split at hr
 ·rename_i e ob off len sz gr n hu hrow hn
  split at hr
  ·rename_i cs ho
   obtain ⟨⟨h1,h2,h3,h4,h5⟩,hr⟩:=hr
   split at hr
   ·rename_i X hs
    have hx:=hc.l.rel 0 _ _ rfl rfl
    cases a<;>simp only [nS] at hrow<;>cases hrow
    ·cases hx with
     | msl _ _ _ _ b cap hb hl hm hrw=>exact qG hc hu h1 h2 rfl hb hrw hl ho h3 h4 hn hs hr
    ·cases hx with
     | mslc _ _ _ _ _ b hb hl hm hrw=>exact qG hc hu h1 h2 rfl hb hrw hl ho h3 h4 hn hs hr
   ·exact hr.elim
  ·exact hr.elim
 ·exact hr.elim
def AIJ{t t2 ty:Nat}{mt:Bool}{a b:AV}{u v:Value}(hc:ES F G [a,b] H [u,v] w)(hr:apz P t t2 mt a b H R):
  Fx P ((do let r<-Builtin.append_ #[t,t2] ty #[u,v];pure (Next.value r):Sem Next).run P w) (Fe F G w R):=by
 unfold apz at hr
 split at hr
 ·rename_i e kn ob off len sz c k m hu hu2
  split at hr
  ·rename_i cs ho
   obtain ⟨z,h1,⟨h3,h4,h5,h6,h7,h8,h9,wl,h11⟩,hr⟩:=hr
   obtain ⟨m,rfl⟩ : ∃ j:Nat,m=(j:Int):=⟨m.toNat,FO⟩
   rw [Aa] at wl h11 hr
   exact T4 hc ho hu hu2 h5 h6 h7 h1 h3 h4 FO FO  wl h11 hr
  ·exact hr.elim
 ·exact hr.elim
end
end Go.AI
namespace Go.AI
section
variable {P:Program} {F:Nat->Prop} {G:Gh} {w:World} {H:FP} {R:AV->FP->Prop}
def Hd{first:List AV}{fi:List Value}(hl:first.length=fi.length)(h : ∀ (i:Nat) (c:AV) (v:Value),first[i]? =some c->fi[i]? =some v->EU G w c v):LRel F G (first.map AV.borrow) fi w /\ ∀ b,HC b (first.map AV.borrow) fi=0:=by
 refine ⟨⟨by simpa using hl,λi a u h1 h2=>?_,λi a u h1 h2=>?_⟩,λb=>?_⟩
 ·rw [Ab] at h1
  cases hc:first[i]? with
  | none=>rw [hc] at h1;cases h1
  | some c=>rw [hc] at h1;cases h1;exact (h i c u hc h2).borrow
 ·rw [Ab] at h1
  cases hc:first[i]? with
  | none=>rw [hc] at h1;cases h1
  | some c=>rw [hc] at h1;cases h1;exact Ff (Gb c u) F G w
 ·clear h
  induction first generalizing fi with
  | nil=>simp [HC]
  | cons c cs ih =>
   match fi,hl with
   | u::us,hl=>rw [AS,FY,Gb,ih (by simpa using hl)];simp
def Ue {f:FuncId} {first captured args:List AV} {fv:Value} {uargs:Array Value} (hc:ES F G (.fn (.func f) first captured::args) H (fv::uargs.toList) w)
  (hcall:FV P f (first.map AV.borrow++args++captured.map AV.borrow) H R) :
  Fx P ((do let d<-Deferred.ofValue fv uargs;invoke d.target d.args:Sem Next).run P w) (Fe F G w R):=by
 have hx:=hc.l.rel 0 _ _ rfl rfl
 obtain ⟨_,_,hargs⟩:=hc.l.uncons
 cases hx with
 | fn _ _ _ fi ca h1 h2 h3 h4 =>
  obtain ⟨hcallable,hcall⟩:=hcall
  obtain ⟨l1,t1⟩:=Hd (F:=F) (G:=G) (w:=w) (first:=first) (fi:=fi.toList) (by simpa using h1) (λi c v a b=>h3 i c v a (by simpa using b))
  obtain ⟨l2,t2⟩:=Hd (F:=F) (G:=G) (w:=w) (first:=captured) (fi:=ca.toList) (by simpa using h2) (λi c v a b=>h4 i c v a (by simpa using b))
  have hcr:ES F G (first.map AV.borrow++args++captured.map AV.borrow) H (fi.toList++uargs.toList++ca.toList) w:=by
   refine ⟨(l1.append hargs).append l2,hc.h,λb=>?_⟩
   rw [GW _ _ _ _ _ (l1.append hargs).len,GW _ _ _ _ _ l1.len,t1,t2]
   have:=hc.cnt b
   rw [FY] at this
   omega
  have hC:=hcall F G w _ hcr
  have e:(do let d<-Deferred.ofValue (.func (.func f) fi ca) uargs;invoke d.target d.args:Sem Next).run P w = .ok (.enter f (fi++uargs++ca)) w:=by
   unfold HW at hcallable
   split at hcallable
   ·rename_i fn hfn
    simp only [Bool.and_eq_true,BW,beq_eq_false_iff_ne,ne_eq] at hcallable
    obtain ⟨g1,g2⟩:=hcallable
    have g3:fn.body.isNone=false:=by cases hb:fn.body<;>simp_all
    simp only [Deferred.ofValue,AJ,Ad,AZ,invoke,callFunc,run_program,hfn,beq_eq_false_iff_ne.2 g1,g3,Bw,if_false]
   ·cases hcallable
  rw [e]
  have e2:(fi.toList++uargs.toList++ca.toList).toArray=fi++uargs++ca:=by
   apply Bm
   simp
  rw [e2] at hC
  refine hC.mono λen w'' hen=>?_
  obtain ⟨u,rfl,v,H',G',hr,g1,g2⟩:=hen
  exact ⟨u,rfl,v,H',G',hr,g1,g2⟩
def AAd {f:FuncId} {first captured args:List AV} {fv:Value} {uargs:Array Value} {v:AV} (hc:ES F G (.fn (.func f) first captured::args) H (fv::uargs.toList) w)
  (hcall:QD P f (first.map AV.borrow++args++captured.map AV.borrow) H v) (hr:R v H) :
  Fx P ((do let d<-Deferred.ofValue fv uargs;invoke d.target d.args:Sem Next).run P w) (Fe F G w R):=by
 have hx:=hc.l.rel 0 _ _ rfl rfl
 obtain ⟨_,_,hargs⟩:=hc.l.uncons
 cases hx with
 | fn _ _ _ fi ca h1 h2 h3 h4 =>
  unfold QD at hcall
  split at hcall
  ·rename_i ob off len sz ob2 off2 len2 sz2 c2 heq
   obtain ⟨hne,⟨fn,tS,tR,e,g1,g2,g3,g4,g5,g6,g7⟩,hl,hl2,hp,rfl⟩:=hcall
   have hcr:ES F G [.msl ob off len sz,.mslc ob2 off2 len2 sz2 c2] H (fi.toList++uargs.toList++ca.toList) w:=by
    rw [<- heq]
    obtain ⟨l1,t1⟩:=Hd (F:=F) (G:=G) (w:=w) (first:=first) (fi:=fi.toList) (by simpa using h1) (λi c v a b=>h3 i c v a (by simpa using b))
    obtain ⟨l2,t2⟩:=Hd (F:=F) (G:=G) (w:=w) (first:=captured) (fi:=ca.toList) (by simpa using h2) (λi c v a b=>h4 i c v a (by simpa using b))
    refine ⟨(l1.append hargs).append l2,hc.h,λb=>?_⟩
    rw [GW _ _ _ _ _ (l1.append hargs).len,GW _ _ _ _ _ l1.len,t1,t2]
    have:=hc.cnt b
    rw [FY] at this
    omega
   have e2:(fi.toList++uargs.toList++ca.toList).toArray=fi++uargs++ca:=by
    apply Bm
    simp
   generalize hus:fi.toList++uargs.toList++ca.toList=us at hcr e2
   match us,hcr,e2 with
   | [u,v],hcr,e2 =>
    have hov:=eZ (tR:=tR) hcr hne g6 g7 hl hl2 hp
    have hrun:=run_callFunc_extern (P:=P) g1 g2 g3 g4 g5 #[u,v] w
    rw [hov] at hrun
    refine .value (u:=.bool false) (w':=w) ?_ (Fe.plain hc hr (.bool _) (FT rfl rfl _))
    simp only [Deferred.ofValue,AJ,Ad,AZ,invoke,<- e2]
    exact hrun
   | [],hcr,_=>have:=hcr.l.len;simp at this
   | [_],hcr,_=>have:=hcr.l.len;simp at this
   | _::_::_::_,hcr,_=>have:=hcr.l.len;simp at this
  ·exact hcall.elim
def CRel.rest{v:AV}{L:List AV}{u:Value}{tm:List Value}(hc:ES F G (v::L) H (u::tm) w):ES F G L H tm w :=
 ⟨hc.l.uncons.2.2,hc.h,λb=>by have:=hc.cnt b;rw [FY] at this;omega⟩
def AAc{o:Nat}{L:LoopRec}{args:List AV}{fv:Value}{uargs:Array Value}(hc:ES F G (.yld o L::args) H (fv::uargs.toList) w)(hcall:L8 P o L args H R):
  Fx P ((do let d<-Deferred.ofValue fv uargs;invoke d.target d.args:Sem Next).run P w) (Fe F G w R):=by
 have hx:=hc.l.rel 0 _ _ rfl rfl
 cases hx with
 | yld _ b _ h hb hk =>
  obtain ⟨r,h1,h2,h3⟩:=hcall F G w _ b hc.rest h hk
  have hs:uargs.size=r.params.size:=by simpa using h2
  have e:(do let d<-Deferred.ofValue (.func (.yield b) #[] #[]) uargs;invoke d.target d.args:Sem Next).run P w = .ok (.round b r.fn ((r.params.zip uargs).foldl (λtmps (t,a)=>tmps.setIfInBounds t a) r.tmps) r.assign r.body) w:=by
   simp only [Deferred.ofValue,AJ,Ad,AZ,invoke,DZ]
   exact run_yield h1 hs
  rw [e]
  have e2:uargs.toList.toArray=uargs:=sm
  rw [e2] at h3
  exact h3
def AE0 {lo hi mx:Option Operand} {ρ:Operand->Value} {rest:List AV} {l h m:Option Int} (hb:Pk lo.isSome hi.isSome mx.isSome rest=some (l,h,m))
  (hl:LRel F G rest ((lo.toArray++hi.toArray++mx.toArray).toList.map ρ) w) :
  ET (lo.map ρ) l/\ET (hi.map ρ) h/\ET (mx.map ρ) m/\(m.isSome=true->h.isSome=true):=by
 have int : ∀ {k:IntKind} {i:Int} {u:Value},EU G w (.int k i) u->u = .int k i:=λh=>by cases h;rfl
 unfold Pk at hb
 split at hb<;>first|cases hb|skip
 all_goals
  rename_i e1 e2 e3
  cases lo<;>first|cases e1|skip
  all_goals cases hi<;>first|cases e2|skip
  all_goals cases mx<;>first|cases e3|skip
  all_goals simp only [Option.toArray,C8,Ar,AS,Ah,AN,List.singleton_append,Ai] at hl
  all_goals simp only [Option.map_none,BU]
 ·exact ⟨.none,.none,.none,sm⟩
 ·have g1:=int (hl.rel 0 _ _ rfl rfl)
  rw [g1];exact ⟨.some _ _,.none,.none,sm⟩
 ·have g1:=int (hl.rel 0 _ _ rfl rfl)
  rw [g1];exact ⟨.none,.some _ _,.none,sm⟩
 ·have g1:=int (hl.rel 0 _ _ rfl rfl)
  have g2:=int (hl.rel 1 _ _ rfl rfl)
  rw [g1,g2];exact ⟨.some _ _,.some _ _,.none,sm⟩
 ·have g1:=int (hl.rel 0 _ _ rfl rfl)
  have g2:=int (hl.rel 1 _ _ rfl rfl)
  rw [g1,g2];exact ⟨.none,.some _ _,.some _ _,sm⟩
 ·have g1:=int (hl.rel 0 _ _ rfl rfl)
  have g2:=int (hl.rel 1 _ _ rfl rfl)
  have g3:=int (hl.rel 2 _ _ rfl rfl)
  rw [g1,g2,g3];exact ⟨.some _ _,.some _ _,.some _ _,sm⟩
def bF{us:Array Value}(h:us.toList.length=1): ∃ u,us=#[u]:=by
 obtain ⟨l⟩:=us
 match l,h with
 | [u],_=>exact ⟨u,rfl⟩
def Ru{us:Array Value}(h:us.toList.length=2): ∃ u v,us=#[u,v]:=by
 obtain ⟨l⟩:=us
 match l,h with
 | [u,v],_=>exact ⟨u,v,rfl⟩
def nT{v:AV}{u:Value}(h:ES F G [v] H [u] w):ES F G [v.borrow] H [u] w:=by
 obtain ⟨h1,h2,_⟩:=h.l.uncons
 refine ⟨.cons h1.borrow (Ff (Gb _ _) F G w) (.nil F G w),h.h,λb=>?_⟩
 rw [FY,GS,Gb]
 have:=h.cnt b
 simp only [Bd]
 omega
def lx{r:Result Next}(h:Fx P r (Fe F G w λv H'=>R v.borrow H')):Fx P r (Fe F G w R):=by
 have key : ∀ u w',Fe F G w (λv H'=>R v.borrow H') u w'->Fe F G w R u w':=by
  rintro u w' ⟨v,H',G',hR,hc,he⟩
  exact ⟨v.borrow,H',G',hR,nT hc,he⟩
 unfold Fx at h ⊢
 cases r with
 | ok nx w' =>
  cases nx<;>simp only at h ⊢
  ·exact key _ _ h
  ·exact key _ _ h
  ·refine Calls.mono h λe w'' he=>?_
   obtain ⟨u,rfl,hk⟩:=he
   exact ⟨u,rfl,key _ _ hk⟩
  ·refine RoundIn.mono h λe w'' he=>?_
   obtain ⟨u,rfl,hk⟩:=he
   exact ⟨u,rfl,key _ _ hk⟩
 | halt x w'=>exact h
def AGI(h:EV)(o:Oper)(ρ:Operand->Value)(hρ : ∀ v,ρ (.const v)=v)(vals:List AV)(hc:ES F G vals H (o.op.operands.toList.map ρ) w)(hr:Fd P h o vals H R):
  Fx P ((execOp ρ o).run P w) (Fe F G w R):=by
 unfold Fd at hr
 split at hr<;>rename_i heq<;>simp only [heq,Op.operands] at hc<;>simp only [execOp,heq]
 ·exact .value rfl (Fe.same hc hr)
 ·exact .value rfl (Fe.same hc hr)
 ·exact AE1 hc hr
 ·exact AII hc hr.1 hr.2
 ·split at hr
  ·exact Z4 hc hr.1 hr.2
  ·obtain ⟨z,hz,hr⟩:=hr
   exact AAk hc hz hr
 · -- build
  rename_i t ps
  rw [show (EB (λx:Nat×Operand=>(x.1,ρ x.2)) ps)=(ps.toList.map λp=>(p.1,ρ p.2)).toArray by apply Bm;simp]
  rw [show ((ps.toList.map (·.2)).toArray.toList.map ρ)=ps.toList.map λp=>ρ p.2 by simp] at hc
  split at hr
  ·rename_i fs hu
   obtain ⟨z,cs,h1,h2,h3,h4⟩:=hr
   exact T3 hc hu h1 h2 h3 h4
  ·rename_i n e hu
   obtain ⟨z,cs,h1,h2,h3,h4⟩:=hr
   exact VT hc hu h1 h2 h3 h4
  ·exact hr.elim
 ·rename_i t len ps
  rw [show (EB (λx:Nat×Operand=>(x.1,ρ x.2)) ps)=(ps.toList.map λp=>(p.1,ρ p.2)).toArray by apply Bm;simp]
  rw [show ((ps.toList.map (·.2)).toArray.toList.map ρ)=ps.toList.map λp=>ρ p.2 by simp] at hc
  split at hr
  ·rename_i e hu
   obtain ⟨h1,h2,h3,h4,h5,h6⟩:=hr
   split at h6
   ·exact RP hc hu h1 h2 h3 h4 h5 h6
   ·exact XV hc hu h1 h2 h3 h4 h5 h6
  ·exact hr.elim
 ·split at hr
  ·rename_i e hu
   obtain ⟨h1,h2,h3,h4,h5,z,h6,h7,h8,h9⟩:=hr
   exact Zz hc hu h1 h2 h3 h4 h5 h6 h7 h8 h9
  ·exact hr.elim
 · -- load from an object
  split at hr
  ·rename_i cs ho
   split at hr
   ·rename_i v hl
    split at hr
    ·exact OY hc ho hl (.inr hr.2.2)
    ·exact OY hc ho hl (.inl hr)
   ·exact hr.elim
  ·exact hr.elim
 ·split at hr
  ·rename_i v hl
   exact Z0 hc hl hr
  ·exact hr.elim
 ·split at hr
  ·rename_i cs ho
   obtain ⟨h1,h2,h3,h4,h5⟩:=hr
   exact AAe hc ho h1 h2 h3 h4 h5
  ·exact hr.elim
 ·obtain ⟨a,ha,hk⟩:=T0 hc hr
  rw [ha] at hk ⊢
  exact .value rfl hk
 ·obtain ⟨a,ha,hk⟩:=Sd hc hr
  rw [ha] at hk ⊢
  exact .value rfl hk
 ·rename_i x f a b
  simp only [AS,Ah] at hc
  have hx:=hc.l.rel 0 _ _ rfl rfl
  generalize ρ x=fx at hx hc ⊢
  cases hx
  exact .value rfl (Fe.same hc hr)
 ·rename_i x o' L
  simp only [AS,Ah] at hc
  have hx:=hc.l.rel 0 _ _ rfl rfl
  generalize ρ x=fx at hx hc ⊢
  cases hx
  exact .value rfl (Fe.same hc hr)
 ·split at hr
  ·rename_i y _ _ _ hy
   refine sQ hc ?_ hr
   unfold Ks at hy
   split at hy
   ·exact hρ _
   ·cases hy
  ·exact AAj hc hr
 ·split at hr
  ·exact eV hc hr
  ·exact eU hc hr
  ·exact hr.elim
 ·split at hr
  ·exact VS hc ‹_› ‹_› hr
  ·exact VR hc ‹_› ‹_› hr
  ·exact Sf hc ‹_› ‹_› hr.1 hr.2.1 hr.2.2
  ·exact hr.elim
 ·rename_i fn first captured
  have:=ee (P:=P) (fn:=fn) (first:=first.toList) (captured:=captured.toList) (ρ:=ρ) (R:=R) (by simpa using hc) (by simpa using hr)
  rw [show (first.toList.map ρ).toArray=first.map ρ by apply Bm;simp,show (captured.toList.map ρ).toArray=captured.map ρ by apply Bm;simp] at this
  exact this
 ·rename_i t x lo hi mx a rest
  simp only [C8,Ar,AS,List.cons_append,AN] at hc
  split at hr
  ·rename_i l hh m hb
   obtain ⟨hx,htx,hrest⟩:=hc.l.uncons
   obtain ⟨o1,o2,o3,o4⟩:=AE0 (ρ:=ρ) hb (by simpa using hrest)
   split at hr
   ·unfold KB at hr
    split at hr
    ·rename_i n e o off hu
     obtain ⟨⟨rfl,rfl,rfl⟩,g1,g2,hr⟩:=hr
     have nn : ∀ {x:Option Value},ET x none->x=none:=λ{x} h=>by
      cases x with
      | none=>rfl
      | some z=>cases h
     split at hr
     ·rename_i cs ho
      rw [nn o1,nn o2,nn o3]
      exact Zw hc hu g2 ho hr.1 g1 hr.2
     ·exact hr.elim
    ·rename_i e own es hu
     obtain ⟨⟨rfl,rfl,rfl⟩,g1,hr⟩:=hr
     have nn : ∀ {x:Option Value},ET x none->x=none:=λ{x} h=>by
      cases x with
      | none=>rfl
      | some z=>cases h
     rw [nn o1]
     exact XU hc hu o2 o3 g1 hr
    ·exact hr.elim
   unfold Nt at hr
   split at hr
   ·rename_i s hu
    obtain ⟨h1,h2,h3,h4,h5⟩:=hr
    subst h1
    have:mx.map ρ=none:=by cases o3':mx.map ρ with
     | none=>rfl
     | some z=>rw [o3'] at o3;cases o3
    exact Zv hc hu o1 o2 this h2 h3 h4 h5
   ·rename_i e own es hu
    obtain ⟨h1,h2,h3,h4,hz,h5⟩:=hr
    refine eY hc hu o1 o2 o3 o4 h1 h2 h3 h4 ?_ ?_
    ·cases m with
     | none=>exact h5
     | some mm=>exact h5
    ·cases hi:P.info? e with
     | none=>rw [hi] at hz;cases hz
     | some i=>exact ⟨i,rfl⟩
   ·rename_i e ob off len sz hu
    obtain ⟨⟨h1,h2,h3,h4,hz,rfl,h5⟩,hr⟩:=hr
    refine Zx hc hu o1 o2 o3 h1 h2 h3 h4 ?_ h5 hr
    cases hi:P.info? e with
    | none=>rw [hi] at hz;cases hz
    | some i=>exact ⟨i,rfl⟩
   ·rename_i e ob off len sz c hu
    obtain ⟨⟨h1,h2,h3,h4,hz,rfl⟩,hr⟩:=hr
    refine XS hc hu o1 o2 o3 h1 h2 h3 h4 ?_ hr
    cases hi:P.info? e with
    | none=>rw [hi] at hz;cases hz
    | some i=>exact ⟨i,rfl⟩
   ·rename_i ta cs off hu
    obtain ⟨rfl,rfl,rfl,hr⟩:=hr
    have nn : ∀ {x:Option Value},ET x none->x=none:=λ{x} h=>by
     cases x with
     | none=>rfl
     | some z=>cases h
    split at hr
    ·rename_i n e ha
     obtain ⟨g1,g2,g3,g4⟩:=hr
     rw [nn o1,nn o2,nn o3]
     exact XT hc hu ha g1 g2 g3 g4
    ·exact hr.elim
   ·rename_i n e cs off hu
    obtain ⟨⟨rfl,rfl,rfl⟩,g1,g2,g3,g4⟩:=hr
    have nn : ∀ {x:Option Value},ET x none->x=none:=λ{x} h=>by
     cases x with
     | none=>rfl
     | some z=>cases h
    rw [nn o1,nn o2,nn o3]
    exact VQ hc hu g1 g2 g3 g4
   ·exact hr.elim
  ·exact hr.elim
 · -- fieldAddr
  split at hr
  ·rename_i fs hu
   split at hr
   ·rename_i fd hf
    exact Z3 hc hu hf hr.1 hr.2
   ·exact hr.elim
  ·exact hr.elim
 ·split at hr
  ·rename_i fs hu
   split at hr
   ·rename_i fd hf
    split at hr
    ·rename_i v hl
     exact AAg hc hu hf hl hr
    ·exact hr.elim
   ·exact hr.elim
  ·exact hr.elim
 ·obtain ⟨v,hv,hr⟩:=hr
  exact l8 hc hv hr
 · -- indexAddr
  split at hr
  ·rename_i e own es hu
   obtain ⟨h0,v,h1,h2,h3,h4⟩:=hr
   exact T2 hc hu h0 h1 h2 h3 h4
  ·rename_i e ob off len sz hu
   obtain ⟨h0,h1,h2,h3,h4⟩:=hr
   exact Se hc hu h0 h1 h2 h3 h4
  ·rename_i n e ob off hu
   obtain ⟨h0,h1,h2,h3⟩:=hr
   exact Ms hc hu h0 h1 h2 h3
  ·rename_i n e cs off hu
   obtain ⟨h0,h1,h2,h3⟩:=hr
   exact Ms hc hu h0 h1 h2 h3
  ·exact hr.elim
 ·split at hr
  ·rename_i s hu
   obtain ⟨h0,h1,h2⟩:=hr
   exact Z1 hc hu h0 h1 h2
  ·rename_i n e cs hu
   obtain ⟨h0,h1,h2,v,h3,h4⟩:=hr
   exact Z2 hc hu h0 h1 h2 h3 h4
  ·exact hr.elim
 ·simp only [Option.toArray_none,Ah] at hc
  exact lz hc hr
 ·obtain ⟨hu,hr⟩:=hr
  split at hu
  ·rename_i kt et hu'
   simp only [Option.toArray_some,AS,Ah] at hc
   exact T1 hc hu' hr
  ·cases hu
 ·simp only [AS,Ah] at hc
  split at hr
  ·rename_i kt et hu
   split at hr
   ·rename_i es he
    obtain ⟨g1,g2,z,g3,g4⟩:=hr
    exact sR hc hu he g1 g2 g3 g4
   ·exact hr.elim
  ·exact hr.elim
 ·simp only [AS,Ah] at hc
  split at hr
  ·rename_i kt et hu
   split at hr
   ·rename_i es he
    obtain ⟨g1,g2,g3,g4⟩:=hr
    exact Zy hc hu he g1 g2 g3 g4
   ·exact hr.elim
  ·exact hr.elim
 ·simp only [AS,Ah] at hc
  exact AAf hc hr
 ·simp only [AS,Ah] at hc
  exact AE2 hc hr
 ·simp only [AS,Ah] at hc
  exact AAh hc hr
 · -- calls
  rename_i c
  obtain ⟨callee,args,argTypes⟩:=c
  cases callee with
  | invoke r m=>exact hr.elim
  | value fo =>
   simp only at hr
   split at hr
   ·simp only [Call.operands] at hc
    split at hr
    ·split at hr
     ·obtain ⟨v,hcall,hr⟩:=hr
      rcases hcall with hcall|hcall
      ·have:=Ue (P:=P) (fv:=ρ fo) (uargs:=args.map ρ) (R:=R) (by simpa using hc) ((hcall H rfl).mono λv' H' hq=>by obtain ⟨rfl,rfl⟩:=hq;exact hr)
       simpa [resolve] using this
      ·have:=AAd (P:=P) (fv:=ρ fo) (uargs:=args.map ρ) (R:=R) (by simpa using hc) hcall hr
       simpa [resolve] using this
     ·obtain ⟨v,hcall,hr⟩:=hr
      have:=Ue (P:=P) (fv:=ρ fo) (uargs:=args.map ρ) (R:=R) (by simpa using hc) ((hcall H).mono λv' H' hq=>by obtain ⟨rfl,rfl⟩:=hq;exact hr)
      simpa [resolve] using this
    ·split at hr
     ·obtain ⟨v,ext,hcall,hr⟩:=hr
      have:=Ue (P:=P) (fv:=ρ fo) (uargs:=args.map ρ) (R:=R) (by simpa using hc) (hcall.mono λv2 H2 hq=>by obtain ⟨rfl,rfl⟩:=hq;exact hr)
      simpa [resolve] using this
     ·have hcall:=hr
      have:=Ue (P:=P) (fv:=ρ fo) (uargs:=args.map ρ) (R:=R) (by simpa using hc) hcall
      simpa [resolve] using this
   ·simp only [Call.operands] at hc
    have:=AAc (P:=P) (fv:=ρ fo) (uargs:=args.map ρ) (R:=R) (by simpa using hc) hr.2
    simpa [resolve] using this
   ·exact hr.elim
  | builtin b =>
   simp only [Call.operands] at hc
   have e0 : ∀ (as:Array Operand),List.map ρ ((#[]:Array Operand)++as).toList=(as.map ρ).toList:=by intro as;simp
   cases b<;>simp only at hr<;>first|exact hr.elim|skip
   case append =>
    split at hr
    ·rename_i a b t t' hat
     by_cases htt:t=t'
     case neg =>
      rw [iN htt] at hr
      have hat':argTypes=#[t,t']:=by rw [<- Bn (xs:=argTypes),hat]
      subst hat'
      obtain ⟨u,v,huv⟩:=Ru (us:=args.map ρ) (by have:=hc.l.len;simp at this;simp;omega)
      rw [e0,huv] at hc
      simp only [resolve,huv,AJ,Ad,AZ,invoke,builtin]
      simpa only [AJ,Ad] using AIJ (ty:=o.type) hc hr
     subst htt
     rw [iP rfl] at hr
     split at hr
     ·rename_i e hu
      obtain ⟨h1,h3,hr⟩:=hr
      have hat':argTypes=#[t,t]:=by rw [<- Bn (xs:=argTypes),hat]
      subst hat'
      obtain ⟨u,v,huv⟩:=Ru (us:=args.map ρ) (by have:=hc.l.len;simp at this;simp;omega)
      rw [e0,huv] at hc
      simp only [resolve,huv,AJ,Ad,AZ,invoke,builtin]
      split at hr
      ·rename_i xs hs
       obtain ⟨h2,hr⟩:=hr
       have hsrc:=AHw hc hs h2
       split at hr
       ·obtain ⟨rfl,h4,h5,h6⟩:=hr
        cases hln:o.dst.any h.pc.contains
        ·rw [hln] at h6
         simpa only [AJ,Ad] using Yr (ty:=o.type) hc hsrc hu h1 h2 h3 h4 h5 h6
        ·rw [hln] at h6
         have h7:=Yr (ty:=o.type) (R:=λv H'=>R v.borrow H') hc hsrc hu h1 h2 h3 h4 h5 h6
         have h8:=lx h7
         simpa only [AJ,Ad] using h8
       ·obtain ⟨rfl,h4,h6,h7,hr⟩:=hr
        split at hr
        ·rename_i cs ho
         obtain ⟨h8,h9,wl⟩:=hr
         simpa only [AJ,Ad] using P6 (ty:=o.type) hc hsrc ho hu h1 h4 h8 h9 h2 h3 h6 h7 wl
        ·exact hr.elim
       ·rename_i ob off len sz c hmt
        obtain ⟨rfl,h4,h6,h7,hr⟩:=hr
        split at hr
        ·rename_i cs ho
         obtain ⟨h8,h9,wl⟩:=hr
         have hc':ES F G [.msl ob 0 len sz,b] H [u,v] w:=by
          obtain ⟨hv1,_,hr1⟩:=hc.l.uncons
          cases hv1 with
          | mslc _ _ _ _ _ b' hb hl hm hcc =>
           refine ⟨.cons (.msl ob 0 len sz b' c hb hl hm hcc) (Ff (FT rfl rfl _) _ _ _) hr1,hc.h,λx=>?_⟩
           have:=hc.cnt x
           rw [FY,FT rfl rfl] at this ⊢
           exact this
         simpa only [AJ,Ad] using P6 (ty:=o.type) hc' hsrc ho hu h1 h4 h8 h9 h2 h3 h6 h7 wl
        ·exact hr.elim
       ·obtain ⟨h4,h5,h6,h7⟩:=hr
        simpa only [AJ,Ad] using XW (ty:=o.type) hc hsrc hu h1 h2 h3 h4 h5 h6 h7
       ·exact hr.elim
      ·exact hr.elim
     ·exact hr.elim
    ·exact hr.elim
   case cap =>
    split at hr
    ·rename_i ob off len sz cp
     obtain ⟨u,hu1⟩:=bF (us:=args.map ρ) (by have:=hc.l.len;simp at this;simp;omega)
     rw [e0,hu1] at hc
     simp only [resolve,hu1,AJ,Ad,AZ,invoke,builtin]
     split at hr
     ·rename_i e hb
      obtain ⟨t,h1,h2⟩:=CF.1 hb
      simpa only [AJ,Ad] using eh (ty:=o.type) hc h1 h2 hr
     ·exact hr.elim
    ·exact hr.elim
   case copy =>
    split at hr
    ·rename_i a b t t' hat
     have hat':argTypes=#[t,t']:=by rw [<- Bn (xs:=argTypes),hat]
     subst hat'
     obtain ⟨u,v,huv⟩:=Ru (us:=args.map ρ) (by have:=hc.l.len;simp at this;simp;omega)
     rw [e0,huv] at hc
     simp only [resolve,huv,AJ,Ad,AZ,invoke,builtin]
     simpa only [AJ,Ad] using AAl (ty:=o.type) hc hr
    ·exact hr.elim
   case clear =>
    split at hr
    ·rename_i ob off len sz t hat
     split at hr
     ·rename_i e hu
      split at hr
      ·rename_i cs ho
       obtain ⟨z,h1,h2,h3,h4,h5⟩:=hr
       have hat':argTypes=#[t]:=by rw [<- Bn (xs:=argTypes),hat]
       subst hat'
       obtain ⟨u,hu1⟩:=bF (us:=args.map ρ) (by have:=hc.l.len;simp at this;simp;omega)
       rw [e0,hu1] at hc
       simp only [resolve,hu1,AJ,Ad,AZ,invoke,builtin]
       simpa only [AJ,Ad] using AAi (ty:=o.type) hc ho hu h1 h2 h3 h4 h5
      ·exact hr.elim
     ·exact hr.elim
    ·exact hr.elim
   case len =>
    split at hr
    ·rename_i x
     obtain ⟨u,hu1⟩:=bF (us:=args.map ρ) (by have:=hc.l.len;simp at this;simp;omega)
     rw [e0,hu1] at hc
     simp only [resolve,hu1,AJ,Ad,AZ,invoke,builtin]
     split at hr
     ·rename_i e own es hb
      obtain ⟨t,h1,h2⟩:=CF.1 hb
      simpa only [AJ,Ad] using sT (ty:=o.type) hc h1 h2 hr
     ·rename_i e ob off len sz hb
      obtain ⟨t,h1,h2⟩:=CF.1 hb
      simpa only [AJ,Ad] using l6 (ty:=o.type) hc h1 h2 hr
     ·rename_i e ob off len sz c hb
      obtain ⟨t,h1,h2⟩:=CF.1 hb
      simpa only [AJ,Ad] using ef (ty:=o.type) hc h1 h2 hr
     ·rename_i s hb
      obtain ⟨t,h1,h2⟩:=CF.1 hb
      simpa only [AJ,Ad] using l4 (ty:=o.type) hc h1 h2 hr
     ·rename_i n e hb
      obtain ⟨t,h1,h2⟩:=CF.1 hb
      simpa only [AJ,Ad] using l7 (ty:=o.type) hc h1 h2 hr
     ·exact hr.elim
    ·exact hr.elim
   case max =>
    split at hr
    ·obtain ⟨rfl,hr⟩:=hr
     obtain ⟨u,v,huv⟩:=Ru (us:=args.map ρ) (by have:=hc.l.len;simp at this;simp;omega)
     rw [e0,huv] at hc
     simp only [resolve,huv,AJ,Ad,AZ,invoke,builtin]
     simpa only [AJ,Ad] using AIH (P:=P) (ts:=argTypes) (ty:=o.type) hc hr
    ·exact hr.elim
   case min =>
    split at hr
    ·obtain ⟨rfl,hr⟩:=hr
     obtain ⟨u,v,huv⟩:=Ru (us:=args.map ρ) (by have:=hc.l.len;simp at this;simp;omega)
     rw [e0,huv] at hc
     simp only [resolve,huv,AJ,Ad,AZ,invoke,builtin]
     simpa only [AJ,Ad] using AIG (P:=P) (ts:=argTypes) (ty:=o.type) hc hr
    ·exact hr.elim
 ·exact hr.elim
end
end Go.AI
namespace Go.AI
def kc(ops:Array Oper)(env:Fs)(o:Oper):Option Bool :=
 match o.guard with
 | none=>some true
 | some (j,want)=>match (ops[j]?).bind (·.dst) with
  | some d=>match Fq env d with
   | .bool b=>some (b==want)
   | .tup _=>some false
   | _=>none
  | none=>none
def Gi(n:Nat):Option Tmp->Prop
 | some d=>d<n
 | none=>True
def put(d:Option Tmp)(v:AV)(env:Fs):Fs :=
 match d with
 | some t=>(t,v)::env
 | none=>env
def Ic(P:Program)(n:Nat)(h:EV)(ops:Array Oper)(o:Oper)(K:Fs->FP->Prop)(env:Fs)(H:FP):Prop :=
 match kc ops env o with
 | some true=>Gi n o.dst/\Fd P h o (ON P (HV o) (Fz h o) o.op.operands.toList env).1 H λv H'=>K (put o.dst v (ON P (HV o) (Fz h o) o.op.operands.toList env).2) H'
 | some false=>Gi n o.dst/\K (put o.dst (.tup []) env) H
 | none=>False
def LL(P:Program)(n:Nat)(h:EV)(ops:Array Oper):List Oper->(Fs->FP->Prop)->Fs->FP->Prop
 | [],K=>K
 | o::rest,K=>Ic P n h ops o (LL P n h ops rest K)
abbrev cX(ro:Option Nat):Fence:={ Fence.wide with round:=ro }
def aT(w:World)(b:Nat):Prop:=w.heap[b]? =some (.deferred (some []))
def DOk(F:Nat->Prop)(w:World)(ds:List Deferred):Prop :=
 ∃ bs:List Nat,ds=bs.map (λb=>{ target:=.collected b,args:=#[] })/\bs.Nodup /\ ∀ b∈bs,¬ F b/\aT w b
def DOk.nil(F:Nat->Prop)(w:World):DOk F w []:=⟨[],rfl,List.nodup_nil,λb hb=>by cases hb⟩
def DOk.keep{F:Nat->Prop}{w w':World}{ds:List Deferred}(h:DOk F w ds)(hk : ∀ b,aT w b->aT w' b):DOk F w' ds:=by
 obtain ⟨bs,h1,h2,h3⟩:=h
 exact ⟨bs,h1,h2,λb hb=>⟨(h3 b hb).1,hk b (h3 b hb).2⟩⟩
def ORel.not_isD{F:Nat->Prop}{G:Gh}{w:World}{cs:List AV}{b:Nat}(h:ORel F G w cs b): ¬ aT w b:=λhd=>by
 have hi:=h.is
 unfold aT at hd
 split at hi
 ·obtain ⟨C,E,h1,_⟩:=hi;rw [hd] at h1;cases h1
 ·obtain ⟨es,ms,cl,h1,_⟩:=hi;rw [hd] at h1;cases h1
 ·rcases hi with ⟨s,pos,h1,_⟩|⟨h1,_⟩|⟨_,_,_,_,h1,_⟩<;>(rw [hd] at h1;cases h1)
 ·obtain ⟨s,p,t,D,st,vals,h1,_⟩:=hi;rw [hd] at h1;cases h1
 ·exact hi.elim
def CRel.addD{F:Nat->Prop}{G:Gh}{vs:List AV}{H:FP}{us:List Value}{w:World}(h:ES F G vs H us w):ES (λb=>F b\/aT w b) G vs H us w:=by
 have hto : ∀ {p:AV×Value},GD F G w p->GD (λb=>F b\/aT w b) G w p:=λhp=>hp.keep λb hb=>by
  obtain ⟨h1,_,C,E,h3⟩:=hp.of_tok hb
  refine ⟨?_,rfl,rfl⟩
  rintro (hF|hd)
  ·exact h1 hF
  ·unfold aT at hd;rw [h3] at hd;cases hd
 refine ⟨⟨h.l.len,h.l.rel,λi a u h1 h2 p hp=>hto (h.l.tok i a u h1 h2 p hp)⟩,⟨h.h.len,λo cs b h1 h2=>?_,h.h.inj,λb hb=>?_,h.h.glob⟩,h.cnt⟩
 ·refine (h.h.obj o cs b h1 h2).change ?_ λ_ _ _ _ _ _ _ _ hp=>hto hp
  rintro (hF|hd)
  ·exact (h.h.obj o cs b h1 h2).own hF
  ·exact (h.h.obj o cs b h1 h2).not_isD hd
 ·rcases hb with hF|hd
  ·exact h.h.fore b hF
  ·exact (Ao.1 hd).1
structure SRel (F:Nat->Prop) (G:Gh) (n:Nat) (env:Fs) (H:FP) (a:Act) (w:World):Prop where
 size:a.tmps.size=n
 defers:DOk F w a.defers
 out : ∀ t,n<=t->Fq env t = .undef
 c:ES F G (Gk n env) H a.tmps.toList w
section
variable {P:Program} {F:Nat->Prop} {G:Gh} {w:World} {H:FP} {n:Nat} {env:Fs} {a:Act} {h:EV} {ops:Array Oper}
def NJ(F:Nat->Prop)(G:Gh)(w:World)(n:Nat)(K:Fs->FP->Prop)(a':Act)(w':World):Prop :=
 ∃ env' H' G',K env' H'/\SRel F G' n env' H' a' w'/\Ext F G w G' w'
def CRel.setSlot{v:AV}{L:List AV}{u:Value}{tm:List Value}(hc:ES F G (v::L) H (u::tm) w){d:Nat}(hd:d<tm.length):ES F G (L.set d v) H (tm.set d u) w:=by
 obtain ⟨hv,ht,hl⟩:=hc.l.uncons
 have hlen:=hl.len
 have old1:L[d]? =some (L[d]' FO):=AL _
 have old2:tm[d]? =some tm[d]:=AL _
 refine ⟨⟨by simp [hlen],λi x y h1 h2=>?_,λi x y h1 h2=>?_⟩,hc.h,λb=>?_⟩
 ·rw [Aw] at h1 h2
  split at h1
  ·rename_i e
   subst e
   rw [iP rfl,iP hd] at h2
   rw [iP FO] at h1
   cases h1;cases h2;exact hv
  ·rename_i e
   rw [iN e] at h2
   exact hl.rel i x y h1 h2
 ·rw [Aw] at h1 h2
  split at h1
  ·rename_i e
   subst e
   rw [iP rfl,iP hd] at h2
   rw [iP FO] at h1
   cases h1;cases h2;exact ht
  ·rename_i e
   rw [iN e] at h2
   exact hl.tok i x y h1 h2
 ·have h1:=Uz b L tm d v _ u _ old1 old2
  have h2:=hc.cnt b
  rw [FY] at h2
  omega
def CRel.tail{v:AV}{L:List AV}{u:Value}{tm:List Value}(hc:ES F G (v::L) H (u::tm) w):ES F G L H tm w :=
 ⟨hc.l.uncons.2.2,hc.h,λb=>by have:=hc.cnt b;rw [FY] at this;omega⟩
def U5{v:AV}{u:Value}(hs:a.tmps.size=n)(hd:DOk F w a.defers)(ho : ∀ t,n<=t->Fq env t = .undef)(hc:ES F G (v::Gk n env) H (u::a.tmps.toList) w)(dst:Option Tmp)(hdst:Gi n dst):
  SRel F G n (put dst v env) H (a.put dst u) w:=by
 cases dst with
 | none=>exact ⟨hs,hd,ho,hc.tail⟩
 | some d =>
  have hdn:d<n:=hdst
  refine ⟨by simp [Act.put,hs],hd,λt ht=>?_, ?_⟩
  ·simp only [put,Fq]
   rw [iN (λe=>by subst e;exact absurd hdn (Nat.not_lt.2 ht))]
   exact ho t ht
  ·simp only [put,Act.put,Array.toList_setIfInBounds]
   rw [Sw env v hdn]
   exact hc.setSlot (by simp [hs];exact hdn)
def YS{o:Oper}{b:Bool}(hs:SRel F G n env H a w)(hg:kc ops env o=some b):Region.wanted o (yielded ops a.tmps)=b:=by
 unfold kc at hg
 unfold Region.wanted
 cases hgd:o.guard with
 | none=>rw [hgd] at hg;simp only [Option.some.injEq] at hg;exact hg
 | some p =>
  obtain ⟨j,want⟩:=p
  rw [hgd] at hg
  simp only at hg ⊢
  cases hd:(ops[j]?).bind (·.dst) with
  | none=>rw [hd] at hg;cases hg
  | some d =>
   rw [hd] at hg
   simp only at hg
   split at hg
   ·rename_i b' hl
    have hdn:d<n:=by
     by_cases hdn:d<n
     ·exact hdn
     ·rw [hs.out d (CA hdn)] at hl;cases hl
    obtain ⟨x,hx⟩ : ∃ x,a.tmps[d]? =some x:=⟨_,Aj (by rw [hs.size];exact hdn)⟩
    have hr:=hs.c.l.rel d (Fq env d) x (IH env hdn) (by rw [Ae];exact hx)
    rw [hl] at hr
    have hv:a.tmps[d]? =some (.bool b'):=by rw [hx];cases hr;rfl
    simp only [Option.some.injEq] at hg
    unfold yielded
    rw [hd]
    simp only [Bb,hv]
    rw [<- hg]
    cases b'<;>cases want<;>rfl
   ·rename_i vs hl
    have hdn:d<n:=by
     by_cases hdn:d<n
     ·exact hdn
     ·rw [hs.out d (CA hdn)] at hl;cases hl
    obtain ⟨x,hx⟩ : ∃ x,a.tmps[d]? =some x:=⟨_,Aj (by rw [hs.size];exact hdn)⟩
    have hr:=hs.c.l.rel d (Fq env d) x (IH env hdn) (by rw [Ae];exact hx)
    rw [hl] at hr
    simp only [Option.some.injEq] at hg
    subst hg
    unfold yielded
    rw [hd]
    simp only [Bb,hx]
    cases hr
    rfl
   ·cases hg
def Xr{o:Oper}{vals:List AV}{R:AV->FP->Prop}(ha:Fd P h o vals H R): ∀ c,o.op ≠ .defer c:=λc hc=>by
 unfold Fd at ha
 rw [hc] at ha
 exact ha
def jE{ro:Option Nat}{nn:Nat}{o:Oper}{K:Fs->FP->Prop}(hs:SRel F G n env H a w)(ha:Ic P n h ops o K env H)(Q:Exit->Act->World->Prop):
  if Region.wanted o (yielded ops a.tmps) then o.wpIn (cX ro) nn P a w (NJ F G w n K) Q else NJ F G w n K (a.put o.dst Go.undef) w:=by
 unfold Ic at ha
 split at ha
 ·rename_i hg
  rw [YS hs hg,iP rfl]
  obtain ⟨hdst,ha⟩:=ha
  obtain ⟨hev,hout⟩:=ACB (P:=P) (w:=w) (F:=F) (G:=G) (H:=H) (a:=a) (HV o) (Fz h o) hs.size o.op.operands.toList env [] [] hs.c rfl hs.out
  simp only [AN] at hev
  generalize ON P (HV o) (Fz h o) o.op.operands.toList env=r at *
  have hlen:r.1.length=(o.op.operands.toList.map a.eval).length:=by
   have:=hev.l.len
   simp only [AF,HT,Array.length_toList,hs.size] at this
   omega
  obtain ⟨_,hB⟩:=hev.l.split hlen
  have hA:=(hev.split hlen).addD
  have hcb : ∀ b,HC b (Gk n r.2) a.tmps.toList<=1:=λb=>by
   have:=hev.cnt b
   rw [GW _ _ _ _ _ hlen] at this
   omega
  have hres:=AGI h o a.eval (λ_=>rfl) r.1 hA ha
  have back : ∀ u w',Fe (λb=>(F b\/0<HC b (Gk n r.2) a.tmps.toList)\/aT w b) G w (λv H'=>K (put o.dst v r.2) H') u w'->NJ F G w n K (a.put o.dst u) w':=by
   rintro u w' ⟨v,H',G',hK,hc,he⟩
   have hj:=TJ (F:=F) hB hcb (λb hb=>CG (CG hb)) (λb hb=>CG (Or.inr hb)) he hc
   have hdk:DOk F w' a.defers:=hs.defers.keep λb hb=>(he.cells b (Or.inr hb)).trans hb
   exact ⟨_,H',G',hK,U5 hs.size hdk hout hj o.dst hdst,he.mono λb hb=>CG (CG hb)⟩
  refine ⟨λ_ _=>trivial, ?_⟩
  rw [Oper.semAt_eq _ _ _ (Xr ha)]
  generalize (execOp a.eval o).run P w=res at hres
  cases res with
  | ok nx w' =>
   cases nx<;>simp only [Fx] at hres
   case value u=>exact back u w' hres
   case skip=>exact back _ w' hres
   case enter f args =>
    show _/\CallsIn (cX ro) (nn - 1) P f args w' _
    refine ⟨λhx=>Bool.noConfusion hx, ?_⟩
    refine CallsIn.mono (show CallsIn (cX ro) (nn - 1) P f args w' _ from (callsIn_wide (n:=nn - 1)).2 hres) λe w'' he=>?_
    obtain ⟨u,rfl,hk⟩:=he
    exact back u w'' hk
   case round l f tmps assign body =>
    show _/\RoundIn (cX ro) (nn - 1) P l f tmps assign body w' _
    refine ⟨λhx=>Bool.noConfusion hx, ?_⟩
    refine RoundIn.mono (show RoundIn (cX ro) (nn - 1) P l f tmps assign body w' _ from ⟨trivial,λc cs _=>hres.2 c cs (room_wide _)⟩) λe w'' he=>?_
    obtain ⟨u,rfl,hk⟩:=he
    exact back u w'' hk
  | halt x w'=>exact hres.elim
 ·rename_i hg
  rw [YS hs hg]
  obtain ⟨hdst,ha⟩:=ha
  refine ⟨_,H,G,ha,U5 hs.size hs.defers hs.out ?_ o.dst hdst,.refl F G w⟩
  have htk:Gs (.tup []) Go.undef=[]:=rfl
  refine ⟨.cons (.tup [] #[] rfl (λc hc=>by simp at hc) (λi c v hc=>by simp at hc)) (Ff htk F G w) hs.c.l,hs.c.h,λb=>?_⟩
  rw [FY,htk]
  simpa using hs.c.cnt b
 ·exact ha.elim
def ZQ{ro:Option Nat}{nn:Nat}(Q:Exit->Act->World->Prop): ∀ (l:List Oper) (K:Fs->FP->Prop) (G:Gh) (env:Fs) (H:FP) (a:Act) (w:World),SRel F G n env H a w->LL P n h ops l K env H ->
  (∀ a' w',NJ F G w n K a' w'->Q .normal a' w')->wpListIn (cX ro) nn P ops Q l a w
 | [],K,G,env,H,a,w,hs,ha,hQ=>hQ a w ⟨env,H,G,ha,hs,.refl F G w⟩
 | o::l,K,G,env,H,a,w,hs,ha,hQ=>by
  have hst:=jE (ro:=ro) (nn:=nn) (K:=LL P n h ops l K) hs ha Q
  have next : ∀ a' w',NJ F G w n (LL P n h ops l K) a' w'->wpListIn (cX ro) nn P ops Q l a' w':=by
   rintro a' w' ⟨env',H',G',hK,hs',he⟩
   refine ZQ Q l K G' env' H' a' w' hs' hK λa'' w''=>?_
   rintro ⟨env2,H2,G2,hK2,hs2,he2⟩
   exact hQ a'' w'' ⟨env2,H2,G2,hK2,hs2,he.trans he2⟩
  unfold wpListIn
  split
  ·rename_i hw
   rw [iP hw] at hst
   exact Oper.wpIn_mono next hst
  ·rename_i hw
   rw [iN hw] at hst
   exact ⟨λ_ _=>trivial,next _ _ hst⟩
def iy{ro:Option Nat}{nn:Nat}{id:Nat}(K:Fs->FP->Prop)(Q:Exit->Act->World->Prop)(hs:SRel F G n env H a w)(ha:LL P n h ops ops.toList K env H)(hQ : ∀ a' w',NJ F G w n K a' w'->Q .normal a' w'):
  (Code.region id ops false).wpIn (cX ro) nn P Q a w :=
 wpIn_region_list (ZQ Q ops.toList K G env H a w hs ha hQ)
end
end Go.AI
namespace Go.AI
def Gz(h:EV)(o:Oper):Nat :=
 match o.op with
 | .box _ _ | .alloc _ | .makeSlice _ _ _ | .makeMap _ _=>5
 | .store _ _ _ | .lookup _ _ _ _ | .mapUpdate _ _ _ _=>3
 | .buildSlice _ _ _=>if o.dst.any h.mt.contains then 5 else 0
 | .slice _ _ _ _ _=>if o.dst.any h.mt.contains then 1 else 0
 | .load _ _=>if o.dst.any h.tk.contains then 2 else 1
 | .binOp _ _ _ y _=>if Ks y then 4 else 0
 | .range _ _ | .next _ _ | .entry _=>4
 | .call c=>match c.callee with
  | .value _=>if o.dst.any h.pc.contains then (if o.dst.any h.mt.contains then 1 else 0) else if o.dst.any h.mt.contains then 5 else 4
  | .builtin .append=>if o.dst.any h.mt.contains||o.dst.any h.tk.contains then 3 else 0
  | .builtin .clear=>3
  | .builtin .copy=>3
  | _=>0
 | _=>0
def Re(h:EV)(o:Oper):Bool:=match o.op with
 | .load _ _ => !o.dst.any h.tk.contains
 | _=>false
def IW{h:EV}{o:Oper}(hl:Re h o=true):Gz h o=1:=by
 unfold Re at hl
 unfold Gz
 split at hl
 ·rename_i heq
  rw [heq]
  simp only [BW] at hl
  simp [hl]
 ·cases hl
section
variable {P:Program} {h:EV} {o:Oper} {vals:List AV} {H:FP} {R:AV->FP->Prop}
structure Fact (P:Program) (h:EV) (o:Oper) (vals:List AV) (H:FP) (v:AV) (H':FP):Prop where
 again : ∀ R',R' v H'->Fd P h o vals H R'
 c0:Gz h o=0->H'=H /\ ∀ H2 R',R' v H2->Fd P h o vals H2 R'
 c1:Gz h o=1->H'=H /\ ∀ H2 R',Gx H2=Gx H->R' v H2->Fd P h o vals H2 R'
 c2:Gz h o=2->Gx H'=Gx H/\((H'=H /\ ∀ H2 R',R' v H2->Fd P h o vals H2 R') \/
  ∃ (ob off:Nat) (cs:List AV),H[ob]? =some (some cs)/\cs[off]? =some v/\GE v=true/\H'=H.set ob (some (cs.set off (borrow1 v))) /\
   ∀ (H2:FP) (cs2:List AV) (R':AV->FP->Prop),H2[ob]? =some (some cs2)->cs2[off]? =some v->R' v (H2.set ob (some (cs2.set off (borrow1 v))))->Fd P h o vals H2 R')
 ld:Re h o=true -> ∀ H2 R',(∃ ext,Gx H2=Gx H++ext)->R' v H2->Fd P h o vals H2 R'
 c5:Gz h o=5 -> ∃ ext,H'=H++ext
def Fact.pure{v:AV}(hc:Gz h o=0)(ha : ∀ (H2:FP) (R':AV->FP->Prop),R' v H2->Fd P h o vals H2 R'):Fact P h o vals H v H :=
 ⟨λR' hr=>ha H R' hr,λ_=>⟨rfl,ha⟩,λe=>FO,λe=>FO,λhl=>by have:=IW hl;omega,λe=>FO⟩
def Fact.any{v:AV}{H':FP}(hc:Gz h o=3)(ha : ∀ (R':AV->FP->Prop),R' v H'->Fd P h o vals H R'):Fact P h o vals H v H' :=
 ⟨ha,λe=>FO,λe=>FO,λe=>FO,λhl=>by have:=IW hl;omega,λe=>FO⟩
def Fact.ext{v:AV}{ext:FP}(hc:Gz h o=5)(ha : ∀ (R':AV->FP->Prop),R' v (H++ext)->Fd P h o vals H R'):Fact P h o vals H v (H++ext) :=
 ⟨ha,λe=>FO,λe=>FO,λe=>FO,λhl=>by have:=IW hl;omega,λ_=>⟨ext,rfl⟩⟩
def Np(a:AV):borrow1 (borrow1 a)=borrow1 a:=by cases a<;>rfl
def Ka{H H2:FP}(e:Gx H2=Gx H){ob:Nat}{cs:List AV}(ho:H[ob]? =some (some cs)): ∃ cs2,H2[ob]? =some (some cs2)/\cs2.map borrow1=cs.map borrow1:=by
 have h1:(Gx H)[ob]? =some (some (cs.map borrow1)):=by simp [Gx,ho]
 rw [<- e] at h1
 simp only [Gx,Ab,C9] at h1
 obtain ⟨x,hx,hx2⟩:=h1
 cases x with
 | none=>simp at hx2
 | some cs2 =>
  exact ⟨cs2,hx,by simpa using hx2⟩
def tP{H H2:FP}(e : ∃ ext,Gx H2=Gx H++ext){ob:Nat}{cs:List AV}(ho:H[ob]? =some (some cs)): ∃ cs2,H2[ob]? =some (some cs2)/\cs2.map borrow1=cs.map borrow1:=by
 obtain ⟨ext,e⟩:=e
 have h1:(Gx H)[ob]? =some (some (cs.map borrow1)):=by simp [Gx,ho]
 have h2:(Gx H2)[ob]? =some (some (cs.map borrow1)):=by
  rw [e,AT (AC.1 h1).1];exact h1
 simp only [Gx,Ab,C9] at h2
 obtain ⟨x,hx,hx2⟩:=h2
 cases x with
 | none=>simp at hx2
 | some cs2=>exact ⟨cs2,hx,by simpa using hx2⟩
def O6(a:AV):(borrow1 a).borrow=a.borrow:=by cases a<;>rfl
def fJ{t:TypeId}{cs cs2:List AV}{off:Nat}{v:AV}(e:cs2.map borrow1=cs.map borrow1)(hl:Lj P t cs off=some v): ∃ v2,Lj P t cs2 off=some v2/\v2.borrow=v.borrow:=by
 have hlen:cs2.length=cs.length:=by have:=congrArg List.length e;simpa using this
 have agg:(AV.agg ((cs2.drop off).take (P.cellsOf t))).borrow=(AV.agg ((cs.drop off).take (P.cellsOf t))).borrow:=by
  simp only [AV.borrow,borrow0,EA,Dc,e]
 unfold Lj at hl ⊢
 split at hl
 ·split at hl
  ·cases hl
   exact ⟨_,by rw [iP FO],agg⟩
  ·cases hl
 ·split at hl
  ·cases hl
   exact ⟨_,by rw [iP FO],agg⟩
  ·cases hl
 ·have hlt:=(AC.1 hl).1
  have h2:cs2[off]? =some (cs2[off]' FO):=AL _
  refine ⟨_,h2, ?_⟩
  have h3:(cs2.map borrow1)[off]? =(cs.map borrow1)[off]?:=by rw [e]
  simp only [Ab,h2,hl,BU,Option.some.injEq] at h3
  rw [<- O6,h3,O6]
 ·cases hl
def Y4{H:FP}{ob:Nat}{cs cs':List AV}(ho:H[ob]? =some (some cs))(e:cs'.map borrow1=cs.map borrow1):Gx (H.set ob (some cs'))=Gx H:=by
 unfold Gx
 apply A5
 intro i
 simp only [Ab,Aw]
 split
 ·rename_i hi
  subst hi
  rw [iP (AC.1 ho).1,ho]
  simp [e]
 ·rfl
def sb{t:TypeId}{cs:List AV}{off:Nat}{v:AV}(hl:Lj P t cs off=some v)(hag:v.scalar=true\/Rv P t=true):(splice cs off (v.cells.map borrow1)).map borrow1=cs.map borrow1:=by
 have gen : ∀ k,off+k<=cs.length->(splice cs off (((cs.drop off).take k).map borrow1)).map borrow1=cs.map borrow1:=by
  intro k hk
  have hlen:(((cs.drop off).take k).map borrow1).length=k:=by simp;omega
  unfold splice
  rw [hlen]
  simp only [Ar,Bx]
  have e1:(borrow1 ∘ borrow1)=borrow1:=funext Np
  rw [e1,<- Ar,<- Ar,AE,<- List.drop_drop,A9,A9]
 unfold Lj at hl
 split at hl
 ·split at hl
  ·cases hl;exact gen _ ‹_›
  ·cases hl
 ·split at hl
  ·cases hl;exact gen _ ‹_›
  ·cases hl
 ·rename_i d hns hna hu
  have hlt:=(AC.1 hl).1
  have hsc:v.scalar=true:=by
   rcases hag with h1|h1
   ·exact h1
   ·unfold Rv at h1
    rw [hu] at h1
    cases d<;>first|exact (hns _ rfl).elim|exact (hna _ _ rfl).elim|cases h1
  have hcells:v.cells=[v]:=by cases v<;>first|rfl|cases hsc
  have:=gen 1 hlt
  rw [List.drop_eq_getElem_cons hlt] at this
  have e:cs[off]=v:=by rw [AL hlt] at hl;exact Option.some.inj hl
  rw [hcells]
  simpa [e] using this
 ·cases hl
def ADY{op:BinOp}{a b:AV}{R:AV->Prop}(hr:KE op a b R): ∃ v,R v /\ ∀ R':AV->Prop,R' v->KE op a b R':=by
 unfold KE at hr ⊢
 split at hr
 ·cases op<;>first|exact ⟨_,hr.2,λR' h'=>⟨hr.1,h'⟩⟩|exact ⟨_,hr.2.2,λR' h'=>⟨hr.1,hr.2.1,h'⟩⟩
 ·cases op<;>first|exact ⟨_,hr.2,λR' h'=>⟨hr.1,h'⟩⟩|exact ⟨_,hr,λR' h'=>h'⟩|exact hr.elim
 ·exact hr.elim
def oY{op:BinOp}{t:TypeId}{a b:AV}{R:AV->Prop}(hr:Kq P op t a b R): ∃ v,R v /\ ∀ R':AV->Prop,R' v->Kq P op t a b R':=by
 unfold Kq at hr ⊢
 split at hr
 ·exact ⟨_,hr,λR' h'=>h'⟩
 ·exact ⟨_,hr,λR' h'=>h'⟩
 ·obtain ⟨v,h1,h2⟩:=ADY hr
  exact ⟨v,h1,h2⟩
def QD.view{f:FuncId}{vs:List AV}{H H2:FP}{v:AV}(hv:Gx H2=Gx H)(h:QD P f vs H v):QD P f vs H2 v:=by
 have get : ∀ o:Nat,(∃ cs:List AV,H[o]? =some (some cs)) -> ∃ cs:List AV,H2[o]? =some (some cs):=λo ho=>by
  obtain ⟨cs,ho⟩:=ho
  obtain ⟨cs2,g1,_⟩:=Ka hv ho
  exact ⟨cs2,g1⟩
 unfold QD at h ⊢
 split at h
 ·exact ⟨h.1,h.2.1,get _ h.2.2.1,get _ h.2.2.2.1,h.2.2.2.2⟩
 ·exact h.elim
def oK{t:TypeId}{x:AV}{lo hi mx:Option Int}{R:AV->Prop}(hr:Nt P t x lo hi mx R): ∃ v,R v /\ ∀ R':AV->Prop,R' v->Nt P t x lo hi mx R':=by
 unfold Nt at hr ⊢
 split at hr
 ·obtain ⟨h1,h2,h3,h4,h5⟩:=hr
  exact ⟨_,h5,λR' h'=>⟨h1,h2,h3,h4,h'⟩⟩
 ·obtain ⟨h1,h2,h3,h4,h5,h6⟩:=hr
  split at h6
  ·exact ⟨_,h6,λR' h'=>⟨h1,h2,h3,h4,h5,h'⟩⟩
  ·exact ⟨_,h6.2.2,λR' h'=>⟨h1,h2,h3,h4,h5,h6.1,h6.2.1,h'⟩⟩
 ·exact ⟨_,hr.2,λR' h'=>⟨hr.1,h'⟩⟩
 ·exact ⟨_,hr.2,λR' h'=>⟨hr.1,h'⟩⟩
 ·obtain ⟨h1,h2,h3,h4⟩:=hr
  split at h4
  ·obtain ⟨g1,g2,g3,g4⟩:=h4
   exact ⟨_,g4,λR' h'=>⟨h1,h2,h3,g1,g2,g3,h'⟩⟩
  ·exact h4.elim
 ·obtain ⟨h1,g1,g2,g3,g4⟩:=hr
  exact ⟨_,g4,λR' h'=>⟨h1,g1,g2,g3,h'⟩⟩
 ·exact hr.elim
def yK{t:TypeId}{a b:AV}(hr:Tn P t a b H R): ∃ v H',R v H' /\ ∀ R':AV->FP->Prop,R' v H'->Tn P t a b H R':=by
 unfold Tn at hr ⊢
 split at hr
 ·split at hr
  ·obtain ⟨h1,h2⟩:=hr
   split at h2
   ·exact ⟨_,_,h2,λR' h'=>⟨h1,h'⟩⟩
   ·exact h2.elim
  ·exact hr.elim
 ·exact hr.elim
def AGJ{t t':TypeId}{mt:Bool}{a b:AV}(hr:apz P t t' mt a b H R):mt=true /\ ∃ v H',R v H' /\ ∀ R':AV->FP->Prop,R' v H'->apz P t t' mt a b H R':=by
 unfold apz at hr ⊢
 split at hr
 ·split at hr
  ·obtain ⟨z,h1,h2,h3⟩:=hr
   exact ⟨rfl,_,_,h3,λR' h'=>⟨z,h1,h2,h'⟩⟩
  ·exact hr.elim
 ·exact hr.elim
def jA{t:TypeId}{x:AV}{lo hi mx:Option Int}{R:AV->Prop}(hr:KB P t x lo hi mx H R): ∃ v,R v /\ ∀ (H2:FP) (R':AV->Prop),Gx H2=Gx H->R' v->KB P t x lo hi mx H2 R':=by
 unfold KB at hr
 split at hr
 ·rename_i hu
  obtain ⟨h1,h2,h3,h4⟩:=hr
  split at h4
  ·rename_i cs ho
   refine ⟨_,h4.2,λH2 R' hv h'=>?_⟩
   obtain ⟨cs2,g1,g2⟩:=Ka hv ho
   have hl:cs2.length=cs.length:=by have:=congrArg List.length g2;simpa using this
   unfold KB
   simp only [hu,g1,hl]
   exact ⟨h1,h2,h3,h4.1,h'⟩
  ·exact h4.elim
 ·rename_i hu
  obtain ⟨h1,h2,h3⟩:=hr
  refine ⟨_,h3,λH2 R' _ h'=>?_⟩
  unfold KB
  simp only [hu]
  exact ⟨h1,h2,h'⟩
 ·exact hr.elim
def S6(hc4:Gz h o≠4)(hr:Fd P h o vals H R): ∃ v H',R v H'/\Fact P h o vals H v H':=by
 unfold Fd at hr
 split at hr<;>rename_i heq
 ·exact ⟨_,_,hr,.pure (by simp [Gz,heq]) λH2 R' h'=>by simp only [Fd,heq];exact h'⟩
 ·exact ⟨_,_,hr,.pure (by simp [Gz,heq]) λH2 R' h'=>by simp only [Fd,heq];exact h'⟩
 ·exact ⟨_,_,hr,.pure (by simp [Gz,heq]) λH2 R' h'=>by simp only [Fd,heq];exact h'⟩
 ·exact ⟨_,_,hr.2,.ext (by simp [Gz,heq]) λR' h'=>by simp only [Fd,heq];exact ⟨hr.1,h'⟩⟩
 ·split at hr
  ·rename_i hm
   exact ⟨_,_,hr.2,.ext (by simp [Gz,heq]) λR' h'=>by simp only [Fd,heq,hm];exact ⟨hr.1,h'⟩⟩
  ·rename_i hm
   obtain ⟨z,hz,hr⟩:=hr
   exact ⟨_,_,hr,.ext (by simp [Gz,heq]) λR' h'=>by simp only [Fd,heq,hm];exact ⟨z,hz,h'⟩⟩
 ·split at hr
  ·rename_i hu
   obtain ⟨z,cs,h1,h2,h3,h4⟩:=hr
   exact ⟨_,_,h4,.pure (by simp [Gz,heq]) λH2 R' h'=>by simp only [Fd,heq,hu];exact ⟨z,cs,h1,h2,h3,h'⟩⟩
  ·rename_i hu
   obtain ⟨z,cs,h1,h2,h3,h4⟩:=hr
   exact ⟨_,_,h4,.pure (by simp [Gz,heq]) λH2 R' h'=>by simp only [Fd,heq,hu];exact ⟨z,cs,h1,h2,h3,h'⟩⟩
  ·exact hr.elim
 ·split at hr
  ·rename_i hu
   obtain ⟨h1,h2,h3,h4,h5,h6⟩:=hr
   split at h6
   ·rename_i hp
    exact ⟨_,_,h6,.ext (by simp [Gz,heq,hp]) λR' h'=>by simp only [Fd,heq,hu,hp];exact ⟨h1,h2,h3,h4,h5,h'⟩⟩
   ·rename_i hp
    exact ⟨_,_,h6,.pure (by simp [Gz,heq,hp]) λH2 R' h'=>by simp only [Fd,heq,hu,hp];exact ⟨h1,h2,h3,h4,h5,h'⟩⟩
  ·exact hr.elim
 ·split at hr
  ·rename_i hu
   obtain ⟨h1,h2,h3,h4,h5,z,h6,h7,h8,h9⟩:=hr
   exact ⟨_,_,h9,.ext (by simp [Gz,heq]) λR' h'=>by simp only [Fd,heq,hu];exact ⟨h1,h2,h3,h4,h5,z,h6,h7,h8,h'⟩⟩
  ·exact hr.elim
 · -- load from an object
  rename_i t _ ob off
  split at hr
  ·rename_i cs ho
   split at hr
   ·rename_i v hl
    split at hr
    ·rename_i ht
     obtain ⟨hown,hsc,hr⟩:=hr
     have hc1:Gz h o=2:=by simp [Gz,heq,ht]
     have hcells:v.cells=[v]:=by cases v<;>first|rfl|cases hsc
     have hat:cs[off]? =some v:=by
      have h1:=hl
      unfold Lj at h1
      split at h1
      ·split at h1
       ·cases h1;cases hsc
       ·cases h1
      ·split at h1
       ·cases h1;cases hsc
       ·cases h1
      ·exact h1
      ·cases h1
     have hone : ∀ cs2:List AV,off<cs2.length->splice cs2 off (v.cells.map borrow1)=cs2.set off (borrow1 v):=by
      intro cs2 hlt
      rw [hcells]
      simp only [AS,Ah,splice,AD,AH,AY]
      rw [List.set_eq_take_append_cons_drop,iP hlt]
      simp
     have hldv : ∀ cs2:List AV,cs2[off]? =some v->Lj P t cs2 off=some v:=by
      intro cs2 h2
      unfold Lj at hl ⊢
      split at hl
      ·split at hl
       ·cases hl;cases hsc
       ·cases hl
      ·split at hl
       ·cases hl;cases hsc
       ·cases hl
      ·exact h2
      ·cases hl
     have hown1:GE v=true:=by
      cases v<;>first|cases hsc|skip
      all_goals first|(simpa [AV.owned,AV.flat,AV.cells] using hown)|rfl
     refine ⟨_,_,hr,λR' h'=>by simp only [Fd,heq,ho,hl,ht];exact ⟨hown,hsc,h'⟩,λe=>FO,λe=>FO,λ_=>⟨Y4 ho (sb hl (.inl hsc)),.inr ⟨ob,off,cs,ho,hat,hown1, ?_,λH2 cs2 R' h1 h2 h'=>?_⟩⟩,λhl=>by have:=IW hl;omega,λe=>FO⟩
     ·rw [hone cs (AC.1 hat).1]
     ·simp only [Fd,heq,h1,hldv cs2 h2,ht]
      refine ⟨hown,hsc, ?_⟩
      rw [hone cs2 (AC.1 h2).1];exact h'
    ·rename_i ht
     have hc1:Gz h o=1:=by simp [Gz,heq,ht]
     refine ⟨_,_,hr,λR' h'=>?_,λe=>FO,λe=>⟨rfl,λH2 R' hv h'=>?_⟩,λe=>FO,λ_ H2 R' hv h'=>?_,λe=>FO⟩
     ·simp only [Fd,heq,ho,hl,ht]
      exact h'
     ·obtain ⟨cs2,ho2,e2⟩:=Ka hv ho
      obtain ⟨v2,hl2,hb⟩:=fJ (P:=P) e2 hl
      simp only [Fd,heq,ho2,hl2,ht]
      rw [hb]
      exact h'
     ·obtain ⟨cs2,ho2,e2⟩:=tP hv ho
      obtain ⟨v2,hl2,hb⟩:=fJ (P:=P) e2 hl
      simp only [Fd,heq,ho2,hl2,ht]
      rw [hb]
      exact h'
   ·exact hr.elim
  ·exact hr.elim
 ·split at hr
  ·rename_i v hl
   refine ⟨_,_,hr,λR' h'=>by simp only [Fd,heq,hl];exact h',λe=>?_,λe=>⟨rfl,λH2 R' _ h'=>by simp only [Fd,heq,hl];exact h'⟩,λ_=>⟨rfl,.inl ⟨rfl,λH2 R' h'=>by simp only [Fd,heq,hl];exact h'⟩⟩,λ_ H2 R' _ h'=>by simp only [Fd,heq,hl];exact h',λe=>by simp only [Gz,heq] at e;split at e<;>omega⟩
   simp only [Gz,heq] at e
   split at e<;>omega
  ·exact hr.elim
 ·split at hr
  ·rename_i cs ho
   obtain ⟨h1,h2,h3,h4,h5⟩:=hr
   exact ⟨_,_,h5,.any (by simp [Gz,heq]) λR' h'=>by simp only [Fd,heq,ho];exact ⟨h1,h2,h3,h4,h'⟩⟩
  ·exact hr.elim
 ·exact ⟨_,_,hr,.pure (by simp [Gz,heq]) λH2 R' h'=>by simp only [Fd,heq];exact h'⟩
 ·exact ⟨_,_,hr,.pure (by simp [Gz,heq]) λH2 R' h'=>by simp only [Fd,heq];exact h'⟩
 ·exact ⟨_,_,hr,.pure (by simp [Gz,heq]) λH2 R' h'=>by simp only [Fd,heq];exact h'⟩
 ·exact ⟨_,_,hr,.pure (by simp [Gz,heq]) λH2 R' h'=>by simp only [Fd,heq];exact h'⟩
 ·split at hr
  ·rename_i hy
   exact absurd (by simp [Gz,heq,hy]) hc4
  ·rename_i hy
   obtain ⟨v,h1,h2⟩:=oY hr
   exact ⟨_,_,h1,.pure (by simp [Gz,heq,hy]) λH2 R' h'=>by simp only [Fd,heq,hy];exact h2 _ h'⟩
 ·split at hr
  ·exact ⟨_,_,hr,.pure (by simp [Gz,heq]) λH2 R' h'=>by simp only [Fd,heq];exact h'⟩
  ·exact ⟨_,_,hr,.pure (by simp [Gz,heq]) λH2 R' h'=>by simp only [Fd,heq];exact h'⟩
  ·exact hr.elim
 ·split at hr
  ·rename_i h1 h2
   exact ⟨_,_,hr,.pure (by simp [Gz,heq]) λH2 R' h'=>by simp only [Fd,heq,h1,h2];exact h'⟩
  ·rename_i h1 h2
   exact ⟨_,_,hr,.pure (by simp [Gz,heq]) λH2 R' h'=>by simp only [Fd,heq,h1,h2];exact h'⟩
  ·rename_i h1 h2
   exact ⟨_,_,hr.2.2,.pure (by simp [Gz,heq]) λH2 R' h'=>by simp only [Fd,heq,h1,h2];exact ⟨hr.1,hr.2.1,h'⟩⟩
  ·exact hr.elim
 ·exact ⟨_,_,hr,.pure (by simp [Gz,heq]) λH2 R' h'=>by simp only [Fd,heq];exact h'⟩
 ·split at hr
  ·rename_i hb
   split at hr
   ·rename_i hm
    have hc1:Gz h o=1:=by simp [Gz,heq,hm]
    obtain ⟨v,h1,h2⟩:=jA hr
    exact ⟨_,_,h1,⟨λR' h'=>by simp only [Fd,heq,hb,hm];exact h2 H _ rfl h',λe=>FO,λ_=>⟨rfl,λH2 R' hv h'=>by simp only [Fd,heq,hb,hm];exact h2 H2 _ hv h'⟩,λe=>FO,λhl=>by simp [Re,heq] at hl,λe=>FO⟩⟩
   ·rename_i hm
    obtain ⟨v,h1,h2⟩:=oK hr
    exact ⟨_,_,h1,.pure (by simp [Gz,heq,hm]) λH2 R' h'=>by simp only [Fd,heq,hb,hm];exact h2 _ h'⟩
  ·exact hr.elim
 ·split at hr
  ·rename_i hu
   split at hr
   ·rename_i hf
    obtain ⟨h0,hr⟩:=hr
    split at hr
    ·exact ⟨_,_,hr,.pure (by simp [Gz,heq]) λH2 R' h'=>by simp only [Fd,heq,hu,hf];exact ⟨h0,h'⟩⟩
    ·exact ⟨_,_,hr,.pure (by simp [Gz,heq]) λH2 R' h'=>by simp only [Fd,heq,hu,hf];exact ⟨h0,h'⟩⟩
    ·exact hr.elim
   ·exact hr.elim
  ·exact hr.elim
 ·split at hr
  ·rename_i hu
   split at hr
   ·rename_i hf
    split at hr
    ·rename_i hl
     exact ⟨_,_,hr,.pure (by simp [Gz,heq]) λH2 R' h'=>by simp only [Fd,heq,hu,hf,hl];exact h'⟩
    ·exact hr.elim
   ·exact hr.elim
  ·exact hr.elim
 ·obtain ⟨v,hv,hr⟩:=hr
  exact ⟨_,_,hr,.pure (by simp [Gz,heq]) λH2 R' h'=>by simp only [Fd,heq];exact ⟨v,hv,h'⟩⟩
 ·split at hr
  ·rename_i hu
   obtain ⟨h0,v,h1,h2,h3,h4⟩:=hr
   exact ⟨_,_,h4,.pure (by simp [Gz,heq]) λH2 R' h'=>by simp only [Fd,heq,hu];exact ⟨h0,v,h1,h2,h3,h'⟩⟩
  ·rename_i hu
   obtain ⟨h0,h1,h2,h3,h4⟩:=hr
   exact ⟨_,_,h4,.pure (by simp [Gz,heq]) λH2 R' h'=>by simp only [Fd,heq,hu];exact ⟨h0,h1,h2,h3,h'⟩⟩
  ·rename_i hu
   obtain ⟨h0,h1,h2,h4⟩:=hr
   exact ⟨_,_,h4,.pure (by simp [Gz,heq]) λH2 R' h'=>by simp only [Fd,heq,hu];exact ⟨h0,h1,h2,h'⟩⟩
  ·rename_i hu
   obtain ⟨h0,h1,h2,h4⟩:=hr
   exact ⟨_,_,h4,.pure (by simp [Gz,heq]) λH2 R' h'=>by simp only [Fd,heq,hu];exact ⟨h0,h1,h2,h'⟩⟩
  ·exact hr.elim
 ·split at hr
  ·rename_i hu
   obtain ⟨h0,h1,h4⟩:=hr
   exact ⟨_,_,h4,.pure (by simp [Gz,heq]) λH2 R' h'=>by simp only [Fd,heq,hu];exact ⟨h0,h1,h'⟩⟩
  ·rename_i hu
   obtain ⟨h0,h1,h2,v,h3,h4⟩:=hr
   exact ⟨_,_,h4,.pure (by simp [Gz,heq]) λH2 R' h'=>by simp only [Fd,heq,hu];exact ⟨h0,h1,h2,v,h3,h'⟩⟩
  ·exact hr.elim
 ·exact ⟨_,_,hr,.ext (by simp [Gz,heq]) λR' h'=>by simp only [Fd,heq];exact h'⟩
 ·exact ⟨_,_,hr.2,.ext (by simp [Gz,heq]) λR' h'=>by simp only [Fd,heq];exact ⟨hr.1,h'⟩⟩
 ·split at hr
  ·rename_i hu
   split at hr
   ·rename_i es he
    obtain ⟨g1,g2,z,g3,g4⟩:=hr
    exact ⟨_,_,g4,.any (by simp [Gz,heq]) λR' h'=>by simp only [Fd,heq,hu,he];exact ⟨g1,g2,z,g3,h'⟩⟩
   ·exact hr.elim
  ·exact hr.elim
 ·split at hr
  ·rename_i hu
   split at hr
   ·rename_i es he
    obtain ⟨g1,g2,g3,g4⟩:=hr
    exact ⟨_,_,g4,.any (by simp [Gz,heq]) λR' h'=>by simp only [Fd,heq,hu,he];exact ⟨g1,g2,g3,h'⟩⟩
   ·exact hr.elim
  ·exact hr.elim
 ·exact absurd (by simp [Gz,heq]) hc4
 ·exact absurd (by simp [Gz,heq]) hc4
 ·exact absurd (by simp [Gz,heq]) hc4
 · -- calls
  rename_i c
  obtain ⟨callee,args,argTypes⟩:=c
  cases callee with
  | invoke r m=>exact hr.elim
  | value fo =>
   simp only at hr
   split at hr
   ·split at hr
    ·rename_i hp
     split at hr
     ·rename_i hq
      obtain ⟨v,hcall,hr⟩:=hr
      have hc1:Gz h o=1:=by simp [Gz,heq,hp,hq]
      exact ⟨_,_,hr,λR' h'=>by simp only [Fd,heq,hp,hq];exact ⟨v,hcall,h'⟩,λe=>FO,λ_=>⟨rfl,λH2 R' hv h'=>by
       simp only [Fd,heq,hp,hq]
       exact ⟨v,hcall.imp (λhcall H3 h3=>hcall H3 (h3.trans hv)) (λhx=>QD.view hv hx),h'⟩⟩,λe=>FO,λhl=>by simp [Re,heq] at hl,λe=>FO⟩
     ·rename_i hq
      obtain ⟨v,hcall,hr⟩:=hr
      exact ⟨_,_,hr,.pure (by simp [Gz,heq,hp,hq]) λH2 R' h'=>by simp only [Fd,heq,hp,hq];exact ⟨v,hcall,h'⟩⟩
    ·rename_i hp
     split at hr
     ·rename_i hq
      obtain ⟨v,ext,hcall,hr⟩:=hr
      exact ⟨_,_,hr,.ext (by simp [Gz,heq,hp,hq]) λR' h'=>by simp only [Fd,heq,hp,hq];exact ⟨v,ext,hcall,h'⟩⟩
     ·rename_i hq
      exact absurd (by simp [Gz,heq,hp,hq]) hc4
   ·obtain ⟨⟨hp,hq⟩,_⟩:=hr
    exact absurd (by simp [Gz,heq,hp,hq]) hc4
   ·exact hr.elim
  | builtin b =>
   cases b<;>simp only at hr<;>first|exact hr.elim|skip
   case append =>
    split at hr
    ·rename_i a b t t' hat
     by_cases htt:t=t'
     case neg =>
      rw [iN htt] at hr
      obtain ⟨hmt,v,H',g1,g2⟩:=AGJ hr
      have hc3:Gz h o=3:=by simp only [Gz,heq,hmt,Bool.true_or];rfl
      exact ⟨_,_,g1,.any hc3 λR' h'=>by simp only [Fd,heq,hat,iN htt];exact g2 R' h'⟩
     rw [iP htt] at hr
     split at hr
     ·rename_i e hu
      obtain ⟨h1,h2,hr⟩:=hr
      have again : ∀ (rd:Bool) (H2:FP) (R':AV->FP->Prop) (xs:List AV),(o.dst.any h.mt.contains||o.dst.any h.tk.contains)=rd->S5 P e rd H2 b=some xs->Nv P e (o.dst.any h.mt.contains) (o.dst.any h.pc.contains) H2 a xs R'->Fd P h o [a,b] H2 R':=by
       intro rd H2 R' xs hrd hs ha
       simp only [Fd,heq,hat,iP htt,hu,hrd,hs]
       exact ⟨h1,h2,ha⟩
      split at hr
      ·rename_i xs hs
       by_cases hrd:(o.dst.any h.mt.contains||o.dst.any h.tk.contains)=true
       ·have hc3:Gz h o=3:=by simp only [Gz,heq,hrd];rfl
        obtain ⟨g1,hr⟩:=hr
        split at hr
        ·rename_i hmt
         obtain ⟨g2,g3,g4,g5⟩:=hr
         exact ⟨_,_,g5,.any hc3 λR' h'=>again _ _ _ xs rfl hs ⟨g1,by rw [hmt];exact ⟨g2,g3,g4,h'⟩⟩⟩
        ·rename_i hmt
         obtain ⟨g2,g3,g4,g5,hr⟩:=hr
         split at hr
         ·rename_i cs ho
          obtain ⟨g6,g7,g8⟩:=hr
          exact ⟨_,_,g8,.any hc3 λR' h'=>again _ _ _ xs rfl hs ⟨g1,by rw [hmt];simp only [ho];exact ⟨g2,g3,g4,g5,g6,g7,h'⟩⟩⟩
         ·exact hr.elim
        ·rename_i hmt
         obtain ⟨g2,g3,g4,g5,hr⟩:=hr
         split at hr
         ·rename_i cs ho
          obtain ⟨g6,g7,g8⟩:=hr
          exact ⟨_,_,g8,.any hc3 λR' h'=>again _ _ _ xs rfl hs ⟨g1,by rw [hmt];simp only [ho];exact ⟨g2,g3,g4,g5,g6,g7,h'⟩⟩⟩
         ·exact hr.elim
        ·rename_i hmt
         obtain ⟨g2,g3,g4,g5⟩:=hr
         exact ⟨_,_,g5,.any hc3 λR' h'=>again _ _ _ xs rfl hs ⟨g1,by rw [hmt];exact ⟨g2,g3,g4,h'⟩⟩⟩
        ·exact hr.elim
       ·have hrd':(o.dst.any h.mt.contains||o.dst.any h.tk.contains)=false:=by simpa using hrd
        have hc0:Gz h o=0:=by simp only [Gz,heq,hrd'];rfl
        have hmt:o.dst.any h.mt.contains=false:=by
         rw [CE] at hrd';exact hrd'.1
        obtain ⟨g1,hr⟩:=hr
        rw [hrd'] at hs
        have hs2 : ∀ H2,S5 P e false H2 b=some xs:=λH2=>by
         unfold S5 at hs ⊢
         split at hs
         ·exact hs
         ·split at hs
          ·rename_i h _;cases h
          ·cases hs
         ·cases hs
        split at hr
        ·rename_i hmt'
         obtain ⟨g2,g3,g4,g5⟩:=hr
         exact ⟨_,_,g5,.pure hc0 λH2 R' h'=>again _ _ _ xs hrd' (hs2 H2) ⟨g1,by rw [hmt'];exact ⟨g2,g3,g4,h'⟩⟩⟩
        ·rename_i hmt'
         rw [hmt] at hmt';cases hmt'
        ·rename_i hmt'
         rw [hmt] at hmt';cases hmt'
        ·rename_i hmt'
         rw [hmt] at hmt';cases hmt'
        ·exact hr.elim
      ·exact hr.elim
     ·exact hr.elim
    ·exact hr.elim
   case cap =>
    split at hr
    ·split at hr
     ·rename_i hu
      exact ⟨_,_,hr,.pure (by simp [Gz,heq]) λH2 R' h'=>by simp only [Fd,heq,hu];exact h'⟩
     ·exact hr.elim
    ·exact hr.elim
   case copy =>
    split at hr
    ·rename_i hat
     obtain ⟨v,H',g1,g2⟩:=yK hr
     exact ⟨_,_,g1,.any (by simp [Gz,heq]) λR' h'=>by simp only [Fd,heq,hat];exact g2 R' h'⟩
    ·exact hr.elim
   case clear =>
    split at hr
    ·rename_i hat
     split at hr
     ·rename_i hu
      split at hr
      ·rename_i ho
       obtain ⟨z,h1,h2,h3,h4,h5⟩:=hr
       exact ⟨_,_,h5,.any (by simp [Gz,heq]) λR' h'=>by simp only [Fd,heq,hat,hu,ho];exact ⟨z,h1,h2,h3,h4,h'⟩⟩
      ·exact hr.elim
     ·exact hr.elim
    ·exact hr.elim
   case len =>
    split at hr
    ·split at hr
     ·rename_i hu
      exact ⟨_,_,hr,.pure (by simp [Gz,heq]) λH2 R' h'=>by simp only [Fd,heq,hu];exact h'⟩
     ·rename_i hu
      exact ⟨_,_,hr,.pure (by simp [Gz,heq]) λH2 R' h'=>by simp only [Fd,heq,hu];exact h'⟩
     ·rename_i hu
      exact ⟨_,_,hr,.pure (by simp [Gz,heq]) λH2 R' h'=>by simp only [Fd,heq,hu];exact h'⟩
     ·rename_i hu
      exact ⟨_,_,hr,.pure (by simp [Gz,heq]) λH2 R' h'=>by simp only [Fd,heq,hu];exact h'⟩
     ·rename_i hu
      exact ⟨_,_,hr,.pure (by simp [Gz,heq]) λH2 R' h'=>by simp only [Fd,heq,hu];exact h'⟩
     ·exact hr.elim
    ·exact hr.elim
   case max =>
    split at hr
    ·exact ⟨_,_,hr.2,.pure (by simp [Gz,heq]) λH2 R' h'=>by simp only [Fd,heq];exact ⟨hr.1,h'⟩⟩
    ·exact hr.elim
   case min =>
    split at hr
    ·exact ⟨_,_,hr.2,.pure (by simp [Gz,heq]) λH2 R' h'=>by simp only [Fd,heq];exact ⟨hr.1,h'⟩⟩
    ·exact hr.elim
 ·exact hr.elim
end
end Go.AI
namespace Go.AI
def Ja{cs xs:List AV}{off:Nat}(h:off+xs.length<=cs.length)(i:Nat):(splice cs off xs)[i]? =if off<=i/\i<off+xs.length then xs[i - off]? else cs[i]?:=by
 unfold splice
 have h1:(cs.take off).length=off:=by simp;omega
 by_cases hi:i<off
 ·rw [iN FO,AE,AT FO,Bu hi]
 ·by_cases hj:i<off+xs.length
  ·rw [iP ⟨FO,hj⟩,AE,AM FO,h1,AT FO]
  ·rw [iN FO,AM (by simp;omega),AF,h1,A1]
   congr 1
   omega
def KP{cs xs:List AV}{off:Nat}(h:off+xs.length<=cs.length):(splice cs off xs).length=cs.length:=by
 unfold splice
 simp
 omega
def dD{cs xs ys:List AV}{f g:Nat}(hd:f+xs.length<=g\/g+ys.length<=f)(h1:f+xs.length<=cs.length)(h2:g+ys.length<=cs.length):
  splice (splice cs f xs) g ys=splice (splice cs g ys) f xs:=by
 apply A5
 intro i
 rw [Ja (by rw [KP h1];exact h2),Ja h1,Ja (by rw [KP h2];exact h1),Ja h2]
 by_cases ha:g<=i/\i<g+ys.length
 ·rw [iP ha,iN FO,iP ha]
 ·rw [iN ha]
  by_cases hb:f<=i/\i<f+xs.length
  ·rw [iP hb,iP hb]
  ·rw [iN hb,iN hb,iN ha]
def Yv(P:Program)(t:TypeId):Nat :=
 match P.underlying t with
 | some (.struct _)|some (.array _ _)=>P.cellsOf t
 | _=>1
def Vc{P:Program}{t:TypeId}{cs xs:List AV}{f g:Nat}(hd:f+Yv P t<=g\/g+xs.length<=f)(h2:g+xs.length<=cs.length):Lj P t (splice cs g xs) f=Lj P t cs f:=by
 have agg : ∀ k,(f+k<=g\/g+xs.length<=f)->((splice cs g xs).drop f).take k=(cs.drop f).take k:=by
  intro k hk
  apply A5
  intro i
  rw [Ak,Ak]
  split
  ·rw [A1,A1,Ja h2,iN FO]
  ·rfl
 unfold Lj
 unfold Yv at hd
 split
 ·rename_i fs hu
  simp only [hu] at hd
  rw [KP h2,agg _ hd]
 ·rename_i n e hu
  simp only [hu] at hd
  rw [KP h2,agg _ hd]
 ·rename_i d hns hna hu
  have h1:f+1<=g\/g+xs.length<=f:=by
   have e:(match some d with|some (TypeDesc.struct _)=>P.cellsOf t|some (TypeDesc.array _ _)=>P.cellsOf t|_=>1)=1:=by
    cases d<;>first|rfl|exact absurd rfl (hns _)|exact absurd rfl (hna _ _)
   rw [hu] at hd
   rw [e] at hd
   exact hd
  rw [Ja h2,iN FO]
 ·rfl
end Go.AI
