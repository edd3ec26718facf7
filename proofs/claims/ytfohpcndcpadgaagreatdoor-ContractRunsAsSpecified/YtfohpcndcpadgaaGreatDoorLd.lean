/- That the model's operations do what 'ares' says: appends and calls;all operations together. -/
import Derived.Test.YtfohpcndcpadgaaGreatDoorLa
import Derived.Maps.RangeRun
import Derived.Lib.AppendZerosOnto
import Derived.Lib.Overlaps
set_option linter.unusedSimpArgs false
set_option linter.unusedVariables false
set_option linter.defProp false
set_option maxHeartbeats 1000000
open Go.AI renaming CRel->Ee,OptB->Ef,VRel->Eg,Hint->Eh
open Array renaming empty_append->Dj,ext'->Bq,getElem?_append_left->Dl,getElem?_eq_getElem->Al,getElem?_eq_some_iff->Au,getElem?_modify->EJ,getElem?_push_lt->EH,getElem?_push_size->EI,getElem?_toList->Af,map->EN,range->CX,size_append->Cp,toArray_toList->Br,toList_append->DE,toList_filter->EK
open Bool renaming false_eq_true->B0,not_eq_true'->Bf,or_eq_false_iff->CF
open Int renaming toNat_natCast->AZ
open List renaming any_eq_false->Bp,append_assoc->AF,append_nil->Ai,count->CW,count_nil->Bk,eq_nil_of_length_eq_zero->CM,ext_getElem?->A6,filterMap_eq_nil_iff->B5,flatMap_cons->BA,getElem?_append_left->Aa,getElem?_append_right->AO,getElem?_drop->A4,getElem?_eq_getElem->AL,getElem?_eq_none->A0,getElem?_eq_some_iff->AD,getElem?_map->Ac,getElem?_of_mem->Ab,getElem?_range->CZ,getElem?_set->Az,getElem?_set_ne->A2,getElem?_set_self->Aw,getElem?_take->Ak,getElem?_take_of_lt->By,getElem?_toArray->Bl,getElem?_zip_eq_some->Bj,length_append->AE,length_cons->AC,length_map->Ap,length_nil->AG,length_pos_iff->CD,length_set->Aj,map_append->Aq,map_cons->AW,map_drop->Dn,map_map->Bs,map_nil->Ah,map_take->EL,mem_filter->Ca,mem_flatMap->B1,mem_map->AN,mem_of_getElem?->AB,nil_append->AM,of_mem_zip->Ci,range->An,replicate->As,singleton_append->EM,size_toArray->Bd,take_append_drop->A8
open Nat renaming add_assoc->AT,add_mul->A1,add_zero->BG,le_of_not_lt->B',le_refl->AS,le_trans->AJ,lt_irrefl->Bu,mod_lt->CY,mul_le_mul_right->BH,one_pos->EG,sub_self->AP,zero_add->AX
open Option renaming bind_eq_some_iff->CG,bind_some->Bi,getD_none->BR,isSome_iff_exists->Bm,map_eq_some_iff->DF,map_some->Bb
open Or renaming inl->CH
open Go.Program renaming bytesOf->Co,cellsOf->BU
open Go.Result renaming andThen->Bn,andThen_ok->Ad
open Go.Sem renaming run->Dm,run_bind->AK,run_ite->Bc,run_pure->Ae
namespace Go.AI
section
variable{P:Program}{F:Nat->Prop}{G:Gh}{w:World}{H:Fl}{R:AV->Fl->Prop}
def cN{t:Nat}{s:ByteArray}{u:Value}{i:List AV}{g:List Value}{j o p:Option Value}{l h:Option Int}(C:Ee F G (.str s::i) H (u::g) w)(I:P.underlying t=some .string)
  (J:Ef j l)(O:Ef o h)(T:p=none)(U:0<=l.getD 0)(V:l.getD 0<=h.getD s.size)(h2:h.getD s.size<=s.size)
  (hr:R (.str (s.extract (l.getD 0).toNat (h.getD s.size).toNat)) H):
  GR P ((do let r<-Instr.sliceAt t u j o p;pure (Next.value r):Sem Next).run P w) (GB F G w R):=by
 have hx:=C.l.rel 0 _ _ rfl rfl;cases hx;subst T;have hb:=Hs (P:=P) (isSlice:=false) (len:=s.size) (cap:=s.size) J O .none (λh=>by cases h) U V (by simpa using h2) F3 w;refine .value (u:=.string _) (w':=w) ?_ (GB.plain C hr (.str _) (Fu rfl rfl _));simp only[Instr.sliceAt,Instr.slice,AK,run_underlying I,Ad];simp[hb]
def vr{t e ty:Nat}{i:Option Nat}{C:List AV}{u:Value}{I:Array TypeId}(g:Ee F G [.sl i C] H [u] w)(j:I[0]? =some t)(o:P.underlying t=some (.slice e))(p:R (.int .i64 C.length) H):
  GR P ((do let r<-Builtin.len_ I ty #[u];pure (Next.value r):Sem Next).run P w) (GB F G w R):=by
 have J:=g.l.rel 0 _ _ rfl rfl;cases J with
 |slnil=>exact .value (by simp[Builtin.len_,j,run_underlying o,goInt]) (GB.plain g p (.int _ _) (Fu rfl rfl _))
 |slany=>exact .value (by simp[Builtin.len_,j,run_underlying o,goInt]) (GB.plain g p (.int _ _) (Fu rfl rfl _))
 |sl=>exact .value (by simp[Builtin.len_,j,run_underlying o,goInt]) (GB.plain g p (.int _ _) (Fu rfl rfl _))
def pI{t e ty p i g C:Nat}{u:Value}{j:Array TypeId}(o:Ee F G [.msl p i g C] H [u] w)(I:j[0]? =some t)(J:P.underlying t=some (.slice e))(O:R (.int .i64 g) H):
  GR P ((do let r<-Builtin.len_ j ty #[u];pure (Next.value r):Sem Next).run P w) (GB F G w R):=by
 have T:=o.l.rel 0 _ _ rfl rfl;cases T;exact .value (by simp[Builtin.len_,I,run_underlying J,goInt]) (GB.plain o O (.int _ _) (Fu rfl rfl _))
def pH{t ty:Nat}{s:ByteArray}{u:Value}{g:Array TypeId}(i:Ee F G [.str s] H [u] w)(j:g[0]? =some t)(o:P.underlying t=some .string)(p:R (.int .i64 s.size) H):
  GR P ((do let r<-Builtin.len_ g ty #[u];pure (Next.value r):Sem Next).run P w) (GB F G w R):=by
 have C:=i.l.rel 0 _ _ rfl rfl;cases C;exact .value (by simp[Builtin.len_,j,run_underlying o,goInt]) (GB.plain i p (.int _ _) (Fu rfl rfl _))
def pJ{t e ty n:Nat}{x:AV}{u:Value}{g:Array TypeId}(i:Ee F G [x] H [u] w)(j:g[0]? =some t)(o:P.underlying t=some (.array n e))(p:R (.int .i64 n) H):
  GR P ((do let r<-Builtin.len_ g ty #[u];pure (Next.value r):Sem Next).run P w) (GB F G w R) :=
 .value (by simp[Builtin.len_,j,run_underlying o,goInt]) (GB.plain i p (.int _ _) (Fu rfl rfl _))
def ALV{k:IntKind}{a b:Int}{u v:Value}{ts:Array TypeId}{ty:Nat}(g:Ee F G [.int k a,.int k b] H [u,v] w)(i:R (.int k (if b<a then b else a)) H):
  GR P ((do let r<-Builtin.min_ ts ty #[u,v];pure (Next.value r):Sem Next).run P w) (GB F G w R):=by
 have j:=g.l.rel 0 _ _ rfl rfl;have o:=g.l.rel 1 _ _ rfl rfl;cases j;cases o;exact .value (by simp[Builtin.min_,Builtin.min2]) (GB.plain g i (.int _ _) (Fu rfl rfl _))
def ALW{k:IntKind}{a b:Int}{u v:Value}{ts:Array TypeId}{ty:Nat}(g:Ee F G [.int k a,.int k b] H [u,v] w)(i:R (.int k (if b>a then b else a)) H):
  GR P ((do let r<-Builtin.max_ ts ty #[u,v];pure (Next.value r):Sem Next).run P w) (GB F G w R):=by
 have j:=g.l.rel 0 _ _ rfl rfl;have o:=g.l.rel 1 _ _ rfl rfl;cases j;cases o;exact .value (by simp[Builtin.max_,Builtin.max2]) (GB.plain g i (.int _ _) (Fu rfl rfl _))
def Src(G:Gh)(w:World)(n:Nat)(o:List AV)(u:Value):Prop :=
 (u = .slice none 0 0/\o=[]) \/ ∃(a:Addr) (c:Nat) (g:List Value),u = .slice (some a) o.length c/\g.length=o.length*n/\(∀(j:Nat) (v:Value),g[j]? =some v->w.cell? (a.add j)=some v) /\
   (∀v∈g,v.oneCell'=true) /\ ∀(i:Nat) (c:AV),(Hx o)[i]? =some c->c.scalar=true /\ ∃v,g[i]? =some v/\Eg G w c v
def M4{P:Option Nat}{o:List AV}{n:Nat}(V:∀x∈o,x.cells.length=n){u:Value}(h:Eg G w (.sl P o) u):
  (u = .slice none 0 0/\o=[]) \/ ∃(a:Addr) (c:Nat) (g:List Value),u = .slice (some a) o.length c/\g.length=o.length*n/\(∀(j:Nat) (v:Value),g[j]? =some v->w.cell? (a.add j)=some v) /\
   (∀v∈g,v.oneCell'=true) /\ ∀(i:Nat) (c:AV),(Hx o)[i]? =some c->c.scalar=true /\ ∃v,g[i]? =some v/\Eg G w c v:=by
 cases h with
 |slnil=>exact .inl ⟨rfl,rfl⟩
 |slany _ a=>exact .inr ⟨a,0,[],rfl,F3,λj v p=>by simp at p,λv p=>by simp at p,λi c C=>by simp[Hx]at C⟩
 | sl _ _ sz b q R f hsz U hl hm t I =>
  have hcl:=Hg V;have r:∀i,i<o.length*n -> ∃c,(Hx o)[i]? =some c:=λi C=>⟨_,AL Fj⟩;refine .inr ⟨⟨b,q,none⟩,R,(An (o.length*n)).map f,rfl,F3,λj v p=>?_,λv p=>?_,λi c C=>?_⟩
  ·have J:j<o.length*n:=by have:=(AD.1 p).1;simpa using this
   simp[J]at p;subst p;obtain⟨c,O⟩:=r j J;rw[Hk];exact(t j c O).2.2
  ·obtain⟨j,J,rfl⟩:=AN.1 p;obtain⟨c,O⟩:=r j (List.mem_range.1 J);exact Oe (t j c O).1 (I j c O)
  ·have T:i<o.length*n:=by have:=(AD.1 C).1;omega
   exact⟨(t i c C).1,f i,by simp[T],I i c C⟩
def Qr{olds news rest:List Value}(i:Nat)(h:i<olds.length+news.length):
  (olds.toArray++news.toArray++rest.toArray)[i]? =(olds++news)[i]?:=by
 have e:olds.toArray++news.toArray++rest.toArray=(olds++news++rest).toArray:=F3;rw[e,Bl,Aa (by simpa using h)]
def al {t e ty:Nat} {sv:AV} {o p:List AV} {u v:Value} (hc:Ee F G [.sl (some (P.cellsOf e)) o,sv] H [u,v] w) (hx:Src G w (P.cellsOf e) p v) (hu:P.underlying t=some (.slice e)) (hpos:0<P.cellsOf e)
  (hxs:∀x∈p,x.cells.length=P.cellsOf e) (hz:HD P e=true) (hb:(o.length+p.length)*P.bytesOf e<=140737488355328) (h63:o.length+p.length<=9223372036854775807)
  (hr:R (.sl (some (P.cellsOf e)) (o++p)) H) :
  GR P ((do let r<-Builtin.append_ #[t,t] ty #[u,v];pure (Next.value r):Sem Next).run P w) (GB F G w R):=by
 have hs:=hc.l.rel 0 _ _ rfl rfl;unfold HD at hz;split at hz
 case h_2=>cases hz
 rename_i i hi;split at hz
 case h_2=>cases hz
 rename_i z hz';have hcz:z.cells.size=i.size:=by simpa using hz
 have hce:P.cellsOf e=i.size:=by simp[BU,hi]
 have hbe:P.bytesOf e=i.bytes:=by simp[Co,hi]
 rw[hbe]at hb;have hes:∀x∈o,x.cells.length=P.cellsOf e:=by
  intro x hx';cases hs with
  |slnil=>simp at hx'
  |slany=>simp at hx'
  |sl _ _ sz b q cap f hsz hown _ _ _ _=>rw[hsz x hx',<- (hown _ rfl).1]
 have moved:∀(U g:List Value) (V:Nat),U.length=o.length*P.cellsOf e->g.length=p.length*P.cellsOf e ->
   (∀(i:Nat) (c:AV),(Hx o)[i]? =some c->c.scalar=true /\ ∃v,U[i]? =some v/\Eg G w c v) ->
   (∀(i:Nat) (c:AV),(Hx p)[i]? =some c->c.scalar=true /\ ∃v,g[i]? =some v/\Eg G w c v) ->
   ∃G',Ee F G' [.sl (some (P.cellsOf e)) (o++p)] H [.slice (some ⟨w.heap.size,0,none⟩) (o.length+p.length) (grownCap w (o.length+p.length) V e)]
    (w.drew.alloc (.cells (U.toArray++g.toArray++Builtin.zeroCells z.cells (grownCap w (o.length+p.length) V e - (o.length+p.length))) e)) /\
    Ext F G w G' (w.drew.alloc (.cells (U.toArray++g.toArray++Builtin.zeroCells z.cells (grownCap w (o.length+p.length) V e - (o.length+p.length))) e)):=by
  intro U g V ho hn hoc hnc;have hge:=grownCap_ge w (o.length+p.length) V e;have hcm:grownCap w (o.length+p.length) V e<=maxLen:=grownCap_le_maxLen w _ V e (by unfold maxLen;omega);have hall:∀x∈o++p,x.cells.length=P.cellsOf e:=λx hx=>by
   rcases List.mem_append.1 hx with h|h
   ·exact hes x h
   ·exact hxs x h
  have hd:=hc.draw;have hce1:=Hg hes;have hce2:=Hg hxs;obtain⟨G',h1,h2⟩:=hd.newList (o++p) (P.cellsOf e) (grownCap w (o.length+p.length) V e)
   (U.toArray++g.toArray++Builtin.zeroCells z.cells (grownCap w (o.length+p.length) V e - (o.length+p.length))) e hpos hall (by simpa using hge) hcm (by
    simp only[Cp,Bd,size_zeroCells,hcz,ho,hn,<- hce,<- A1];exact BH _ Fj) (λi c I=>by
    rw[La]at I;have hlt:=(AD.1 I).1;simp only[AE]at hlt;have e0:=Qr (olds:=U) (news:=g) (rest:=(Builtin.zeroCells z.cells (grownCap w (o.length+p.length) V e - (o.length+p.length))).toList) i Fj;rw[Br]at e0;rw[e0];by_cases hlo:i<(Hx o).length
    ·rw[Aa hlo]at I;rw[Aa Fj];obtain⟨s1,v,s2,s3⟩:=hoc i c I;exact⟨s1,v,s2,s3.keep (Ik (F:=F)).keeps⟩
    ·rw[AO Fj]at I;rw[AO Fj,ho,<- hce1];obtain⟨s1,v,s2,s3⟩:=hnc _ c I;exact⟨s1,v,s2,s3.keep (Ik (F:=F)).keeps⟩)
  simp only[AE]at h1;exact⟨G',h1,Ik.trans h2⟩
 have hlenle:o.length+p.length<=9223372036854775807:=h63;cases hs with
 | slnil own =>
  rcases hx with⟨rfl,rfl⟩|⟨a,c,g,rfl,J,O,hone,T⟩
  ·refine .value (u:=.slice none 0 0) (w':=w) ?_ (GB.plain (v:=.sl (some (P.cellsOf e)) []) hc (by simpa using hr) (.slnil _) (by simp[HY,L3,AV.flat,AV.cells,Io,Value.cells,tok]));simp[Builtin.append_,run_underlying hu,sizeOf,typeInfo,hi,Builtin.lenOf,Builtin.firstCells]
  ·by_cases h0:p=[]
   ·subst h0;have:g=[]:=CM (by simpa using J);subst this;refine .value (u:=.slice none 0 0) (w':=w) ?_ (GB.plain (v:=.sl (some (P.cellsOf e)) []) hc (by simpa using hr) (.slnil _) (by simp[HY,L3,AV.flat,AV.cells,Io,Value.cells,tok]));simp[Builtin.append_,run_underlying hu,sizeOf,typeInfo,hi,Builtin.lenOf,Builtin.firstCells,loadCells,loadCellsFrom]
   ·have hpos2:0<p.length:=CD.2 h0;have hrun:=run_append_nil (P:=P) w t ty e i z hu hi hz' a p.length c g (by rw[J,hce]) O hpos2 (by simp at h63;omega) (by simp at hb;omega);obtain⟨G',g1,g2⟩:=moved [] g 0 F3 J (λi c I=>by simp[Hx]at I) T;simp only[AG,AX,Dj,AM]at g1 g2 hr;have e0:(#[]:Array Value)++g.toArray=g.toArray:=F3;exact .value (by rw[AK,hrun];rfl) ⟨_,H,G',hr,by simpa using g1,by simpa using g2⟩
 | slany own ad =>
  rcases hx with⟨rfl,rfl⟩|⟨a,c,g,rfl,J,O,hone,T⟩
  ·refine .value (u:=.slice (some ad) 0 0) (w':=w) ?_ (GB.plain (v:=.sl (some (P.cellsOf e)) []) hc (by simpa using hr) (.slany _ _) (by simp[HY,L3,AV.flat,AV.cells,Io,Value.cells,tok]));simp[Builtin.append_,run_underlying hu,sizeOf,typeInfo,hi,Builtin.lenOf,Builtin.firstCells,storeCells]
  ·by_cases h0:p=[]
   ·subst h0;have:g=[]:=CM (by simpa using J);subst this;refine .value (u:=.slice (some ad) 0 0) (w':=w) ?_ (GB.plain (v:=.sl (some (P.cellsOf e)) []) hc (by simpa using hr) (.slany _ _) (by simp[HY,L3,AV.flat,AV.cells,Io,Value.cells,tok]));simp[Builtin.append_,run_underlying hu,sizeOf,typeInfo,hi,Builtin.lenOf,Builtin.firstCells,loadCells,loadCellsFrom,storeCells]
   ·have hpos2:0<p.length:=CD.2 h0;have hrun:=run_append_grow (P:=P) w t ty e i z hu hi hz' ad 0 0 [] F3 (λj v hv=>by simp at hv) a p.length c g (by rw[J,hce]) O Fj Fj  (growslice_fits (by simpa using hpos2) (by simpa using hb));obtain⟨G',g1,g2⟩:=moved [] g 0 F3 J (λi c I=>by simp[Hx]at I) T;simp only[AG,AX,Dj,AM]at g1 g2 hr;exact .value (by rw[AK,hrun];rfl) ⟨_,H,G',hr,by simpa using g1,by simpa using g2⟩
 | sl own es' sz b q cap f hsz hown hle hmx hcs hus =>
  have hs':Eg G w (.sl (some (P.cellsOf e)) o) (.slice (some ⟨b,q,none⟩) o.length cap):=.sl _ o sz b q cap f hsz hown hle hmx hcs hus;rcases hx with⟨rfl,rfl⟩|⟨a,c,g,rfl,J,O,hone,T⟩
  ·refine .value (u:=.slice (some ⟨b,q,none⟩) o.length cap) (w':=w) ?_ (GB.same (hc.get (i:=0) rfl rfl) (by simpa using hr));simp[Builtin.append_,run_underlying hu,sizeOf,typeInfo,hi,Builtin.lenOf,Builtin.firstCells,hle,storeCells]
  ·by_cases hroom:o.length+p.length<=cap
   ·by_cases h0:p=[]
    ·subst h0;have:g=[]:=CM (by simpa using J);subst this;refine .value (u:=.slice (some ⟨b,q,none⟩) o.length cap) (w':=w) ?_ (GB.same (hc.get (i:=0) rfl rfl) (by simpa using hr));simp[Builtin.append_,run_underlying hu,sizeOf,typeInfo,hi,Builtin.lenOf,Builtin.firstCells,loadCells,loadCellsFrom,hle,storeCells]
    ·have hpos2:0<p.length:=CD.2 h0;have htok:=hc.l.tok 0 _ _ rfl rfl (.sl (some (P.cellsOf e)) o,.slice (some ⟨b,q,none⟩) o.length cap) (by rw[Rs _ _ _ _ _ _ rfl];simp);obtain⟨_,_,C,E,hrow,_⟩:=htok Fj;replace hrow:w.heap[b]? =some (.cells C E (0,0)):=hrow;obtain⟨hfit,G',g1,g2⟩:=hc.appendIn (i0:=0) rfl rfl hroom Fj hxs g J T hrow;have hf:=run_firstCells_some (P:=P) w i.size p.length a p.length c g (by rw[J,hce]) O;have hst:=run_storeCells_at P b (q+o.length*P.cellsOf e) E g 0 C w hrow Fj hone;simp only[BG]at hst;refine .value ?_ ⟨_,H,G',hr,g1,g2⟩;rw[hce]at hst;rw[hce];simp[Builtin.append_,run_underlying hu,sizeOf,typeInfo,hi,Builtin.lenOf,hroom,hf,Hk,hst]
   ·have hrun:=run_append_grow (P:=P) w t ty e i z hu hi hz' ⟨b,q,none⟩ o.length cap ((An (o.length*P.cellsOf e)).map f) (by simp[hce]) (λj v hv=>by
      have hj:j<o.length*P.cellsOf e:=by have:=(AD.1 hv).1;simpa using this
      simp[hj]at hv;subst hv;have hcl:=Hg hes;rw[Hk];exact(hcs j _ (AL Fj)).2.2) a p.length c g (by rw[J,hce]) O Fj Fj  (growslice_fits Fj hb)
    obtain⟨G',g1,g2⟩:=moved ((An (o.length*P.cellsOf e)).map f) g cap F3 J (λi c I=>by
      have hi2:i<o.length*P.cellsOf e:=by have:=(AD.1 I).1;rw[Hg hes]at this;exact this
      exact⟨(hcs i c I).1,f i,by simp[hi2],hus i c I⟩) T
    exact .value (by rw[AK,hrun];rfl) ⟨_,H,G',hr,g1,g2⟩
def ALA{e:TypeId}{rd:Bool}{a b:AV}{u v:Value}{xs:List AV}(hc:Ee F G [a,b] H [u,v] w)(J:Um P e rd H b=some xs)(hn : ∀ x∈xs,x.cells.length=P.cellsOf e):Src G w (P.cellsOf e) xs v:=by
 have O:=hc.l.rel 1 _ _ rfl rfl;unfold Um at J;split at J
 ·cases J;exact M4 hn O
 ·rename_i ob g p sz;split at J
  ·rename_i V ho;split at J
   ·rename_i U;cases J;obtain⟨hle,rfl,hag⟩:=U;cases O with
    | msl _ _ _ _ b cap hb hl hm r =>
     obtain⟨C,E,r,hlC,hC⟩:=((hc.h.obj ob V b ho hb).of_cells r.choose_spec.choose_spec.1).2;have hsc:∀c∈(V.drop g).map borrow1,c.scalar=true:=by
      intro c hcm;obtain⟨d,hd,rfl⟩:=AN.1 hcm;obtain⟨i,t⟩:=Ab hd;rw[A4]at t;have R:=(AD.1 t).1;rw[Gz];exact(hC _ d _ t (Al Fj)).1
     obtain⟨hcat,_⟩:=QF (TR P e) (P.cellsOf e) hag p ((V.drop g).map borrow1) IG hsc;have o:∀j,j<p*P.cellsOf e -> ∃x,C[g+j]? =some x/\w.cell? ⟨b,g+j,none⟩=some x /\ ∀c,V[g+j]? =some c->c.scalar=true/\Eg G w c x:=by
      intro j I;have R:g+j<C.size:=Fj;refine⟨C[g+j],Al R, ?_,λc hcj=>?_⟩
      ·rw[cell_of_row _ _ _ C E _ r];exact Al R
      ·have:=hC _ c _ hcj (Al R);exact⟨this.1,this.2.1⟩
     refine .inr ⟨⟨b,g,none⟩,cap,((C.toList.drop g).take (p*P.cellsOf e)),by rw[MU],by rw[MU];simp;omega,λj x O=>?_,λx O=>?_,λi c t=>?_⟩
     ·have I:j<p*P.cellsOf e:=by have:=(AD.1 O).1;simp at this;omega
      rw[By I,A4,Af]at O;obtain⟨y,h1,h2,_⟩:=o j I;rw[h1]at O;cases O;rw[Hk];exact h2
     ·obtain⟨j,T⟩:=Ab O;have I:j<p*P.cellsOf e:=by have:=(AD.1 T).1;simp at this;omega
      rw[By I,A4,Af]at T;obtain⟨y,h1,_,h3⟩:=o j I;rw[h1]at T;cases T;obtain⟨s1,s2⟩:=h3 _ (AL Fj);exact Oe s1 s2
     ·rw[hcat]at t;have I:i<p*P.cellsOf e:=by have:=(AD.1 t).1;simp at this;omega
      rw[By I,Ac,A4]at t;obtain⟨y,h1,_,h3⟩:=o i I;cases hd:V[g+i]? with
      |none=>rw[hd]at t;cases t
      |some d =>
       rw[hd]at t;cases t;obtain⟨s1,s2⟩:=h3 d hd;exact⟨(Gz d).trans s1,y,by rw[By I,A4,Af];exact h1,s2.borrow1⟩
   ·cases J
  ·cases J
 ·cases J
end
end Go.AI
namespace Go.AI
section
variable{P:Program}{F:Nat->Prop}{G:Gh}{w:World}{H:Fl}{R:AV->Fl->Prop}
def K8{α:Type}(l:List α): ∀ (n i:Nat),(As n l).flatten[i]? =if i<n*l.length then l[i % l.length]? else none
 | 0,i=>F3
 | n+1,i=>by
  rw[List.replicate_succ,List.flatten_cons,List.getElem?_append];by_cases h:i<l.length
  ·rw[iP h,iP (by rw[A1];omega),Nat.mod_eq_of_lt h]
  ·rw[iN h,K8 l n (i - l.length)];have e:(i - l.length) % l.length=i % l.length:=by
    rw[Nat.mod_eq_sub_mod (B' h)]
   rw[e];by_cases g:i<(n+1)*l.length
   ·rw[iP g,iP (by rw[A1]at g;omega)]
   ·rw[iN g,iN (by rw[A1]at g;omega)]
def cR{t e:Nat}{k k':IntKind}{n c:Int}{u v:Value}{z:AV}(h:Ee F G [.int k n,.int k' c] H [u,v] w)(hu:P.underlying t=some (.slice e))(hnc:n=c)(h0:0<=n)(hb:n*P.bytesOf e<=140737488355328)
  (hmax:n<=9223372036854775807)(o:(P.info? e).isSome=true)(hz:F8 P e=some z)(J:z.cells.length=P.cellsOf e)(hpos:0<P.cellsOf e)
  (hr:R (.msl H.length 0 n.toNat (P.cellsOf e)) (H++[some (As n.toNat z.cells).flatten])):
  GR P ((do let r<-Instr.makeSlice t u v;pure (Next.value r):Sem Next).run P w) (GB F G w R):=by
 have I:=h.l.rel 0 _ _ rfl rfl;have O:=h.l.rel 1 _ _ rfl rfl;subst hnc;cases I;cases O;obtain⟨i,o⟩:=Bm.1 o;obtain⟨T,hrun,hval,hc,ht⟩:=Nc hz;have hc':=hc F G w;have hzs:T.cells.size=P.cellsOf e:=by have:=hc'.len;simp at this;omega
 obtain⟨m,rfl⟩:∃m:Nat,n=m:=⟨n.toNat,Fj⟩;have hw:IntKind.i64.wrap (m:Int)=m:=by
  rw[IntKind.wrap_i64];omega
 have hai:∀(k:IntKind) (n:Int),(asInt (.int k n)).run P w = .ok n w:=λk n=>by simp[asInt,asIntOf]
 have j:P.bytesOf e=i.bytes:=by simp[Co,o]
 have hti:(typeInfo e).run P w = .ok i w:=by simp[typeInfo,o]
 rw[j]at hb;have hb':(i.bytes:Int)*(m:Int)<=140737488355328:=by rw[Int.mul_comm];exact hb
 have hd1:decide ((i.bytes:Int)*(m:Int)>2^48)=false:=by
  rw[decide_eq_false_iff_not];omega
 have hd2:decide ((m:Int)<0)=false:=by
  rw[decide_eq_false_iff_not];omega
 have hd3:decide ((m:Int)>(m:Int))=false:=by
  rw[decide_eq_false_iff_not];omega
 have hs:(sizeOf e).run P w = .ok (P.cellsOf e) w:=HG hpos w;have U:∃C:Array Value,C=(CX (m*P.cellsOf e)).map (T.cells[· % T.cells.size]!)/\(Instr.makeSlice t (.int k m) (.int k' m)).run P w = .ok (.slice (some ⟨w.heap.size,0,none⟩) m m) (w.alloc (.cells C e)):=by
  refine⟨_,rfl, ?_⟩;simp only[Instr.makeSlice,AK,run_underlying hu,Ad,hai,Ae,hti,hw,hd1,hd2,hd3,Bool.or_false,Bool.false_or,B0,if_false,run_askRoom,hs,AZ];by_cases hm0:m*P.cellsOf e=0
  ·have hr0:CX 0=#[]:=rfl;simp[hm0,newRow,hr0]
  ·simp[hm0,hrun,newRow]
 obtain⟨C,hC,V⟩:=U;have hCs:C.size=m*P.cellsOf e:=by rw[hC];simp
 have g:∀(i:Nat) (c:AV) (v:Value),(As m z.cells).flatten[i]? =some c->C[i]? =some v->z.cells[i % z.cells.length]? =some c/\T.cells.toList[i % z.cells.length]? =some v:=λi c v I O=>by
  rw[K8]at I;split at I
  ·rename_i hlt;refine⟨I, ?_⟩;rw[hC]at O;rw[J]at hlt;have:i % T.cells.size<T.cells.size:=CY _ Fj;simp[hlt]at O;rw[Af,J,<- hzs,Al this,<- O];simp[this]
  ·cases I
 refine .value (u:=.slice (some ⟨w.heap.size,0,none⟩) m m) (w':=w.alloc (.cells C e)) (by rw[AK,V];rfl) ⟨_,_,_,hr, ?_,I_ h.h.fore _⟩;simp only[AZ];have hfl:(As m z.cells).flatten.length=m*P.cellsOf e:=by simp[J]
 refine h.newObj (As m z.cells).flatten C e (by rw[hfl,hCs];exact AS _) (λi c x I O=>?_) (λb=>?_) (.msl _ _ _ _ w.heap.size m ?_ (AS _) (by unfold maxLen;omega) ⟨C,e,heap_alloc_new w (.cells C e),Fj⟩) (Fu rfl rfl _)
 ·obtain⟨g1,g2⟩:=g i c x I O;exact hc'.at_ _ c x g1 g2
 ·have hnil:((As m z.cells).flatten.zip C.toList).filterMap tok=[]:=by
   rw[B5];intro p hp;obtain⟨i,o⟩:=Ab hp;rw[Bj]at o;obtain⟨g1,g2⟩:=g i p.1 p.2 o.1 (by rw[<- Af];exact o.2);have hmem:(p.1,p.2)∈z.cells.zip T.cells.toList:=AB (i:=i % z.cells.length) (by rw[Bj];exact⟨g1,g2⟩);exact B5.1 ht _ hmem
  rw[hnil];simp
 ·show(G.obs++[w.heap.size])[H.length]? =_;rw[<- h.h.len,AO (AS _)];simp
def Sp {t e g:Nat} {j:List (Nat×Operand)} {ρ:Operand->Value} {C:List AV} (h:Ee F G C H (j.map λp=>ρ p.2) w) (hu:P.underlying t=some (.slice e)) (J:0<P.cellsOf e) (hsmall:g*P.cellsOf e<=16777216)
  (O:j.map (·.1)=An g) (I:∀v∈C,v.isVal=true/\v.cells.length=P.cellsOf e) (V:HD P e=true) (hr:R (.msl H.length 0 g (P.cellsOf e)) (H++[some (Hx (C.map AV.borrow))])) :
  GR P ((do let r<-Instr.buildSlice t g (j.map λp=>(p.1,ρ p.2)).toArray;pure (Next.value r):Sem Next).run P w) (GB F G w R):=by
 have hpl:j.length=g:=by have:=congrArg List.length O;simpa using this
 have hvl:C.length=g:=by have:=h.l.len;simp at this;omega
 have hus:∀u∈j.map (λp=>ρ p.2),u.cells.size=P.cellsOf e:=by
  intro u hu';obtain⟨i,hi⟩:=Ab hu';have hlt:=(AD.1 hi).1;simp at hlt;have T:C[i]? =some (C[i]' Fj):=AL _;obtain⟨g1,g2⟩:=I _ (AB T);have:=(KV g1 (h.l.rel i _ u T hi)).2.2;omega
 unfold HD at V;split at V
 ·rename_i i hi;split at V
  ·rename_i z hz';have key:∀zc:Array Value,Instr.fill (λi=>some (i*P.cellsOf e,P.cellsOf e)) ((CX (g*P.cellsOf e)).map (zc[· % zc.size]!)) (j.map λp=>(p.1,ρ p.2)) =
     some ((j.map λp=>ρ p.2).flatMap λu=>u.cells.toList).toArray:=λzc=>by
    have o:=Xo (P.cellsOf e) (j.map λp=>ρ p.2) 0 ((CX (g*P.cellsOf e)).map (zc[· % zc.size]!)) hus (by simp[hpl]);rw[show(List.range' 0 (j.map λp=>ρ p.2).length)=j.map (·.1) by rw[O,List.range_eq_range'];simp[hpl],Qc]at o;simpa using o
   have U:=Ue C _ h.l λv T=>(I v T).1;have hrun:(Instr.buildSlice t g (j.map λp=>(p.1,ρ p.2)).toArray).run P w = .ok (.slice (some ⟨w.heap.size,0,none⟩) g g) (w.alloc (.cells ((j.map λp=>ρ p.2).flatMap λu=>u.cells.toList).toArray e)):=by
    have hs:(sizeOf e).run P w = .ok (P.cellsOf e) w:=HG J w;simp only[Instr.buildSlice,AK,run_underlying hu,Ad,hs,Bc];rw[iN Fj];simp only[Ae,Ad];by_cases h0:g*P.cellsOf e=0
    ·simp only[iP h0,key];simp[newRow]
    ·simp only[iN h0,zeroValue,typeInfo,AK,run_program,Ad,hi,hz',Ae,key];simp[newRow]
   have hul:((j.map λp=>ρ p.2).flatMap λu=>u.cells.toList).length=g*P.cellsOf e:=by
    have:=U.len;rw[Hg (n:=P.cellsOf e) λx hx=>by
     obtain⟨v,T,rfl⟩:=AN.1 hx;rw[LZ];exact(I v T).2]at this
    simp only[Ap,hvl]at this;omega
   refine .value (by rw[AK,hrun];rfl) ⟨_,_,_,hr, ?_,I_ h.h.fore _⟩;refine h.newObj (Hx (C.map AV.borrow)) _ e (by have:=U.len;simp;simp at this;omega) (λi c x h1 h2=>U.at_ i c x h1 (by simpa using h2)) (λb=>?_) (.msl _ _ _ _ w.heap.size g ?_ (AS _) (by
      have:g<=g*P.cellsOf e:=Nat.le_mul_of_pos_right _ J;unfold maxLen;omega) ⟨_,e,heap_alloc_new w _,by rw[Bd,hul];omega⟩) (Fu rfl rfl _)
   ·have hnil:((Hx (C.map AV.borrow)).zip ((j.map λp=>ρ p.2).flatMap λu=>u.cells.toList)).filterMap tok=[]:=by
     rw[B5];intro p hp;have hm:=(Ci hp).1;simp only[Hx,B1,AN]at hm;obtain⟨x,⟨v,T,rfl⟩,hm⟩:=hm;have hval:=(I v T).1;have e1:v.borrow=borrow0 v:=by cases v<;>first|rfl|cases hval
     rw[e1,Ra]at hm;obtain⟨c,_,hc⟩:=AN.1 hm;obtain⟨p1,p2⟩:=p;simp only at hc;rw[<- hc];exact HF c p2
    rw[hnil];simp
   ·show(G.obs++[w.heap.size])[H.length]? =_;rw[<- h.h.len,AO (AS _)];simp
  ·cases V
 ·cases V
def aZ(f:Value->ByteArray->Sem (ForInStep ByteArray))(g:∀n s,f (.int .u8 n) s=pure (.yield (s.push (UInt8.ofNat n.toNat)))): ∀(l:List Value) (s:ByteArray),(∀v∈l,∃n,v = .int .u8 n) ->
  (forIn l s f:Sem ByteArray).run P w = .ok ⟨s.data++(l.map fun | .int _ n=>UInt8.ofNat n.toNat|_=>0).toArray⟩ w
 |[],s,_=>F3
 |v::l,s,h=>by
  obtain⟨n,rfl⟩:=h v F3;rw[List.forIn_cons,AK,g];simp only[Ae,Ad];rw[aZ f g l _ λx i=>h x (by simp[i])];congr 2;simp[ByteArray.push]
def UE {src p el:TypeId} {own:Option Nat} {g:List AV} {x:Value} (h:Ee F G [.sl own g] H [x] w) (hs:P.underlying src=some (.slice el)) (hd:P.underlying p=some .string) (he:P.underlying el=some (.int .u8))
  (U:∀x∈g,P5 x=true) (hr:R (.str (Q1 g)) H) :
  GR P ((do let v<-convert src p x;pure (Next.value v):Sem Next).run P w) (GB F G w R):=by
 have hx:=h.l.rel 0 _ _ rfl rfl;have V:∀x∈g,x.cells.length=1:=λx hm=>by
  have:=U x hm;unfold P5 at this;split at this
  ·rfl
  ·cases this
 have t:∀r:ByteArray,(convert src p x).run P w = .ok (.string r) w->r=Q1 g->GR P ((do let v<-convert src p x;pure (Next.value v):Sem Next).run P w) (GB F G w R):=λr hrun e=>by
  subst e;exact .value (by rw[AK,hrun];rfl) (GB.plain h hr (.str _) (Fu rfl rfl _))
 have hcat:Hx g=g:=by
  have:∀(g:List AV),(∀x∈g,P5 x=true)->Hx g=g:=by
   intro g;induction g with
   |nil=>intro _;rfl
   | cons a as ih =>
    intro U;have C:=U a F3;have J:=ih λx hx=>U x (by simp[hx]);unfold P5 at C;split at C
    ·simp only[Hx,BA]at J ⊢;rw[J];rfl
    ·cases C
  exact this g U
 rcases M4 V hx with⟨rfl,rfl⟩|⟨a,c,j,rfl,hl,O,_,I⟩
 ·exact t .empty (by simp[convert,run_underlying hs,run_underlying hd,run_underlying he,Conv.bytesToString]) rfl
 ·rw[hcat]at I;rw[Nat.mul_one]at hl;have o:∀(i:Nat) (v:Value),j[i]? =some v -> ∃n,g[i]? =some (.int .u8 n)/\v = .int .u8 n:=λi v T=>by
   have hi:i<g.length:=by have:=(AD.1 T).1;omega
   have C:=AL hi;obtain⟨_,v',hv',hr'⟩:=I i _ C;have J:=U _ (AB C);generalize g[i]=e0 at C hr' J;unfold P5 at J;split at J
   ·rw[T]at hv';cases hv';cases hr';exact⟨_,C,rfl⟩
   ·cases J
  refine t ⟨(j.map fun | .int _ n=>UInt8.ofNat n.toNat|_=>0).toArray⟩ ?_ ?_
  ·have hld:=run_loadCells_list (P:=P) w a j O;rw[hl]at hld;simp only[convert,AK,run_underlying hs,run_underlying hd,run_underlying he,Ad,Conv.bytesToString,hld];rw[<- Array.forIn_toList];simp only[List.toList_toArray];rw[aZ (P:=P) (w:=w) _ (λ_ _=>rfl) j .empty λv T=>by
    obtain⟨i,hi⟩:=Ab T;obtain⟨n,_,hn⟩:=o i v hi;exact⟨n,hn⟩]
   simp
  ·unfold Q1;congr 2;apply A6;intro i;rw[Ac,Ac];cases T:j[i]? with
   |none =>
    rw[A0 (by have:=List.getElem?_eq_none_iff.1 T;omega)];rfl
   |some v =>
    obtain⟨n,hn,rfl⟩:=o i v T;rw[hn];rfl
end
end Go.AI
namespace Go.AI
section
variable{P:Program}{F:Nat->Prop}{G:Gh}{w:World}{H:Fl}{vals:List AV}{us:List Value}{R:AV->Fl->Prop}
def VRel.msl_cells{o g i t b:Nat}{u:Value}(I:Eg G w (.msl o g i t) u)(O:G.obs[o]? =some b): ∃(C:Array Value) (E:TypeId),w.heap[b]? =some (.cells C E (0,0)):=by
 generalize P:AV.msl o g i t=x at I;cases I<;>cases P;rename_i U R J j p r;rw[O]at j;cases j;obtain⟨C,E,T,_⟩:=r;exact⟨C,E,T⟩
def CRel.freeze(h:Ee F G vals H us w){r b:Nat}{cs:List AV}(V:H[r]? =some (some cs))(hb:G.obs[r]? =some b)(hbc : ∃ (C:Array Value) (E:TypeId),w.heap[b]? =some (.cells C E (0,0))):
  Ee F (G.setKind b .imm) vals (H.set r none) us w/\Ext F G w (G.setKind b .imm) w:=by
 have R:=h.h.obj r cs b V hb;have J:G.kind b = .obj:=(R.of_cells hbc.choose_spec.choose_spec).1;have hk:Keeps G w (G.setKind b .imm) w:=⟨λ_ _ h=>h,λ_ C _ h=>⟨C,h,rfl⟩,λj t O=>⟨t,G.kind_set_ne .imm (λe=>by rw[e,J]at O;cases O)⟩,λj o v O hc=>⟨by
  by_cases e:j=b
  ·subst e;unfold Gh.safe at O;rw[J]at O;exact O.elim
  ·exact(G.safe_set_ne .imm e).2 O,hc⟩⟩
 have hE:∀F':Nat->Prop,(∀j,F' j->j≠b)->Ext F' G w (G.setKind b .imm) w:=λF' hF=>⟨AS _,hk,λj t=>G.kind_set_ne .imm (hF j t),λ_ _=>rfl,⟨rfl,rfl,rfl⟩⟩;have hbuf:∀{p:AV×Value} {j:Nat},Gg F G w p->tok p=some j->j≠b:=λ{p j} ht t e=>by
  obtain⟨_,⟨q,hq⟩,_⟩:=ht.of_tok t;rw[e,J]at hq;cases hq
 refine⟨⟨h.l.ext (F':=λj=>j≠b) (hE _ λ_ h=>h) (λj hp=>?_),⟨by rw[Aj];exact h.h.len,λo U b2 I T=>?_,λo o' U cs3 b2 I T h3 h4=>?_,h.h.fore,h.h.glob.keep hk⟩,λj=>?_⟩,hE F λj hF e=>R.own (e▸hF)⟩
 ·obtain⟨_,⟨q,hq⟩,_⟩:=h.l.tok_of_pos hp;intro e;rw[e,J]at hq;cases hq
 ·have P:o≠r:=by
   rintro rfl;rw[Aw (by exact(AD.1 V).1)]at I;cases I
  rw[A2 (Ne.symm P)]at I;have hbne:b2≠b:=by
   rintro rfl;exact P (h.h.inj _ _ _ _ _ I V T hb)
  exact(h.h.obj o U b2 I T).keep hk (h.h.obj o U b2 I T).own (G.kind_set_ne .imm hbne) rfl λC E _ i c v hc hv s3=>s3.keep λj ht=>⟨(s3.of_tok ht).1,G.kind_set_ne .imm (hbuf s3 ht),rfl⟩
 ·have e1:o≠r:=by
   rintro rfl;rw[Aw (by exact(AD.1 V).1)]at I;cases I
  have e2:o'≠r:=by
   rintro rfl;rw[Aw (by exact(AD.1 V).1)]at T;cases T
  rw[A2 (Ne.symm e1)]at I;rw[A2 (Ne.symm e2)]at T;exact h.h.inj _ _ _ _ _ I T h3 h4
 ·have hle:I3 (G.setKind b .imm) (H.set r none) w j<=I3 G H w j:=by
   have hd:=(AD.1 V).1;have O:=J4 (n:=H.length) (f:=λo=>(HU (G.setKind b .imm) (H.set r none) w o).count j) (g:=λo=>(HU G H w o).count j) hd λo ho' P=>by
    unfold HU;rw[A2 (Ne.symm P)];rfl
   have hz:(HU (G.setKind b .imm) (H.set r none) w r)=[]:=by
    unfold HU;rw[Aw hd]
   simp only[hz,Bk,BG]at O;unfold I3;rw[Aj];omega
  have:=h.cnt j;omega
def CRel.moveObj(h:Ee F G vals H us w){t b:Nat}{J:List AV}(ho:H[t]? =some (some J))(hb:G.obs[t]? =some b):
  Ee F { G with obs:=G.obs++[b] } vals (H.set t none++[some J]) us w/\Ext F G w { G with obs:=G.obs++[b] } w:=by
 have O:=h.h.len;have T:=(AD.1 ho).1;have hk:Keeps G w { G with obs:=G.obs++[b] } w:=⟨λo x hx=>Lu hx,λ_ C _ hC=>⟨C,hC,rfl⟩,λ_ hb' _=>⟨hb',rfl⟩,λR o v hs hc=>⟨hs,hc⟩⟩;have he:Ext F G w { G with obs:=G.obs++[b] } w:=⟨AS _,hk,λ_ _=>rfl,λ_ _=>rfl,⟨rfl,rfl,rfl⟩⟩;have hat:∀(o R:Nat) (r:List AV),(H.set t none++[some J])[o]? =some (some r)->(G.obs++[b])[o]? =some R ->
   (o≠t/\o<H.length/\H[o]? =some (some r)/\G.obs[o]? =some R)\/(o=H.length/\r=J/\R=b):=by
  intro o R r j I;have hlt:=(AD.1 j).1;simp only[AE,Aj,AC,AG]at hlt;by_cases hol:o<H.length
  ·rw[Aa (by simpa using hol)]at j;rw[Aa Fj]at I;have U:o≠t:=by
    rintro rfl;rw[Aw T]at j;cases j
   rw[A2 (Ne.symm U)]at j;exact .inl ⟨U,hol,j,I⟩
  ·have:o=H.length:=Fj;subst this;rw[AO F3]at j;rw[AO Fj,O]at I;simp only[Aj,AP,List.getElem?_cons_zero,Option.some.injEq]at j I;exact .inr ⟨rfl,j.symm,I.symm⟩
 refine⟨⟨⟨h.l.len,λi a u j I=>(h.l.rel i a u j I).keep hk,λi a u j I p hp=>h.l.tok i a u j I p hp⟩,
  ⟨by simp[O],λo r R j I=>?_,λo o' cs1 cs2 R j I h3 h4=>?_,h.h.fore,h.h.glob.same rfl⟩,λx=>?_⟩,he⟩
 ·have P:∀(J:List AV) (b2:Nat),ORel F G w J b2->ORel F { G with obs:=G.obs++[b] } w J b2:=λJ b2 hor=>by
   exact hor.keep hk hor.own rfl rfl λ_ _ _ _ _ _ _ _ s3=>s3
  rcases hat o R r j I with⟨_,_,g1,g2⟩|⟨rfl,rfl,rfl⟩
  ·exact P _ _ (h.h.obj o r R g1 g2)
  ·exact P _ _ (h.h.obj t _ _ ho hb)
 ·rcases hat o R cs1 j h3 with⟨n1,l1,g1,g2⟩|⟨rfl,_,rfl⟩<;>rcases hat o' _ cs2 I h4 with⟨n2,l2,g3,g4⟩|⟨rfl,_,hb2⟩
  ·exact h.h.inj _ _ _ _ _ g1 g3 g2 g4
  ·subst hb2;exact absurd (h.h.inj _ _ _ _ _ g1 ho g2 hb) n1
  ·exact absurd (h.h.inj _ _ _ _ _ g3 ho g4 hb) n2
  ·rfl
 ·have h0:=h.cnt x;have e:I3 { G with obs:=G.obs++[b] } (H.set t none++[some J]) w x=I3 G H w x:=by
   unfold I3;simp only[AE,Aj,AC,AG,AX,List.range_succ,Aq,List.sum_append,AW,Ah,List.sum_cons,List.sum_nil,BG];have enew:HU { G with obs:=G.obs++[b] } (H.set t none++[some J]) w H.length=HU G H w t:=by
    unfold HU;rw[AO F3,AO Fj,O,ho,hb];simp
   have eold:HU { G with obs:=G.obs++[b] } (H.set t none++[some J]) w t=[]:=by
    unfold HU;rw[Aa (by simpa using T),Aw T]
   have V:=J4 (n:=H.length) (f:=λo=>(HU { G with obs:=G.obs++[b] } (H.set t none++[some J]) w o).count x) (g:=λo=>(HU G H w o).count x) T λo ho' U=>by
    show CW x _=CW x _;congr 1;unfold HU;rw[Aa (by simpa using ho'),Aa Fj,A2 (Ne.symm U)]
   simp only[eold,Bk,BG]at V;rw[enew];exact V
  rw[e];exact h0
def Jm(g:List AV)(i:List Value):(((g.map borrow1).zip i).filterMap tok)=[]:=by
 rw[B5];intro p o;have r:=(Ci (show(p.1,p.2)∈(g.map borrow1).zip i from o)).1;obtain⟨d,_,j⟩:=AN.1 r;obtain⟨C,t⟩:=p;simp only at j;subst j;exact HF d t
def RU {t e ty ob g sz:Nat} {sv:AV} {I cs:List AV} {u v:Value} (hc:Ee F G [.msl ob 0 g sz,sv] H [u,v] w) (hx:Src G w (P.cellsOf e) I v) (ho:H[ob]? =some (some cs)) (hu:P.underlying t=some (.slice e)) (hpos:0<P.cellsOf e)
  (hsz:sz=P.cellsOf e) (hcl0:cs.length=g*sz) (hcb:cs.map borrow1=cs) (hxs:∀x∈I,x.cells.length=P.cellsOf e) (hz:HD P e=true) (hb:(g+I.length)*P.bytesOf e<=140737488355328) (h63:g+I.length<=9223372036854775807)
  (hr:R (.msl H.length 0 (g+I.length) (P.cellsOf e)) (H.set ob none++[some (cs++(Hx I).map borrow1)])) :
  GR P ((do let r<-Builtin.append_ #[t,t] ty #[u,v];pure (Next.value r):Sem Next).run P w) (GB F G w R):=by
 subst hsz;have hs:=hc.l.rel 0 _ _ rfl rfl;unfold HD at hz;split at hz
 case h_2=>cases hz
 rename_i i hi;split at hz
 case h_2=>cases hz
 rename_i z hz';have hcz:z.cells.size=i.size:=by simpa using hz
 have hce:P.cellsOf e=i.size:=by simp[BU,hi]
 have hbe:P.bytesOf e=i.bytes:=by simp[Co,hi]
 rw[hbe]at hb;have hcl:=Hg hxs;have hlen:=hc.h.len;have hcs':cs++(Hx I).map borrow1=(cs++Hx I).map borrow1:=by rw[Aq,hcb]
 cases hs with
 | msl _ _ _ _ b p hob hl hm U =>
  obtain⟨C0,E0,U,hfit0⟩:=U;obtain⟨C,E,J,hCs,hC⟩:=hc.h.at_obj ho hob ⟨C0,E0,U⟩;have hfit:0+p*P.cellsOf e<=C.size:=by
   rw[U]at J;cases J;exact hfit0
  have same:I=[]->GB F G w R (.slice (some ⟨b,0,none⟩) g p) w:=by
   intro h0;subst h0;obtain⟨h1,h2⟩:=hc.moveObj ho hob;refine⟨_,_,_,by simpa [Hx]using hr, ?_,h2⟩;have hnew:Eg { G with obs:=G.obs++[b] } w (.msl H.length 0 g (P.cellsOf e)) (.slice (some ⟨b,0,none⟩) g p) :=
    .msl _ _ _ _ b p (by show(G.obs++[b])[H.length]? =some b;rw[AO Fj,hlen];simp) hl hm ⟨C,E,J,hfit⟩
   exact(h1.one hnew (GC (Fu rfl rfl _) _ _ _) λb'=>by rw[Fu rfl rfl];simp)
  rcases hx with⟨rfl,rfl⟩|⟨a,c,o,rfl,hnl,hnews,hone,hcell⟩
  ·refine .value (u:=.slice (some ⟨b,0,none⟩) g p) (w':=w) ?_ (same rfl);simp[Builtin.append_,run_underlying hu,sizeOf,typeInfo,hi,Builtin.lenOf,Builtin.firstCells,hl,storeCells]
  ·by_cases h0:I=[]
   ·subst h0;have:o=[]:=CM (by simpa using hnl);subst this;refine .value (u:=.slice (some ⟨b,0,none⟩) g p) (w':=w) ?_ (same rfl);simp[Builtin.append_,run_underlying hu,sizeOf,typeInfo,hi,Builtin.lenOf,Builtin.firstCells,loadCells,loadCellsFrom,hl,storeCells]
   ·have hpos2:0<I.length:=CD.2 h0;have hget:∀(i:Nat) (d:AV),((Hx I).map borrow1)[i]? =some d -> ∃c v,d=borrow1 c/\c.scalar=true/\o[i]? =some v/\Eg G w c v:=by
     intro i d V;rw[Ac]at V;cases hci:(Hx I)[i]? with
     |none=>rw[hci]at V;cases V
     |some c =>
      rw[hci]at V;cases V;obtain⟨s1,v,s2,s3⟩:=hcell i c hci;exact⟨c,v,rfl,s1,s2,s3⟩
    have hold:∀(i:Nat) (d:AV) (x:Value),cs[i]? =some d->C[i]? =some x->d.scalar=true/\Eg G w d x/\d=borrow1 d:=by
     intro i d x V T;have hi':=(AD.1 V).1;obtain⟨g1,g2,_⟩:=hC.at_ i d x V (by rw[Ak,iP hi',Af];exact T);refine⟨g1,g2, ?_⟩;have:(cs.map borrow1)[i]? =some (borrow1 d):=by rw[Ac,V];rfl
     rw[hcb,V]at this;exact Option.some.inj this
    by_cases hroom:g+I.length<=p
    ·have hf:=run_firstCells_some (P:=P) w i.size I.length a I.length c o (by rw[hnl,hce]) hnews;have hfit2:g*P.cellsOf e+o.length<=C.size:=by
      rw[hnl,<- A1];have:=BH (P.cellsOf e) hroom;omega
     have hst:=run_storeCells_at P b (g*P.cellsOf e) E o 0 C w J Fj hone;simp only[BG]at hst;let C':Array Value:=(C.toList.take (g*P.cellsOf e)++o++C.toList.drop (g*P.cellsOf e+o.length)).toArray
     have hC':C'=(C.toList.take (g*P.cellsOf e)++o++C.toList.drop (g*P.cellsOf e+o.length)).toArray:=rfl;have htl:(C.toList.take (g*P.cellsOf e)).length=g*P.cellsOf e:=IG;have hset:=hc.setObj ho hob J (C':=C') (by rw[hC'];simp;omega) (cs':=cs++(Hx I).map borrow1) (by rw[hC'];simp;omega)
      (λi d x V T=>by
       rw[hC',Bl]at T;by_cases hlt:i<cs.length
       ·rw[Aa hlt]at V;rw[AF,Aa Fj,Ak,iP Fj,Af]at T;obtain⟨g1,g2,g3⟩:=hold i d x V T;exact⟨g1,g2,Gb (by rw[g3];exact HF d _)⟩
       ·rw[AO Fj]at V;obtain⟨c,v,rfl,s1,s2,s3⟩:=hget _ d V;have hlt2:=(AD.1 s2).1;rw[AF,AO Fj,htl,<- hcl0,Aa hlt2,s2]at T;cases T;exact⟨(Gz c).trans s1,s3.borrow1,Gb (HF c _)⟩) (vs:=[]) (us':=[]) (.nil F G w) (λx=>by rw[hcs',Jm];simp[Gy])
     have hlenset:(H.set ob (some (cs++(Hx I).map borrow1)))[ob]? =some (some (cs++(Hx I).map borrow1)):=Aw (AD.1 ho).1;obtain⟨h1,h2⟩:=hset.1.moveObj hlenset hob;refine .value (u:=.slice (some ⟨b,0,none⟩) (g+I.length) p) (w':=w.setRow b C') ?_ ⟨_,_,_,hr, ?_,hset.2.trans h2⟩
     ·rw[hce]at hst;simp[Builtin.append_,run_underlying hu,sizeOf,typeInfo,hi,Builtin.lenOf,hroom,hf,Hk,hst,hC',hce]
     ·rw[List.set_set]at h1;have hrow':(w.setRow b C').heap[b]? =some (.cells C' E (0,0)):=setRow_heap w b C _ E _ J;have hnew:Eg { G with obs:=G.obs++[b] } (w.setRow b C') (.msl H.length 0 (g+I.length) (P.cellsOf e)) (.slice (some ⟨b,0,none⟩) (g+I.length) p) :=
       .msl _ _ _ _ b p (by show(G.obs++[b])[H.length]? =some b;rw[AO Fj,hlen];simp) hroom hm ⟨_,E,hrow',by rw[hC'];simp;omega⟩
      exact(h1.one hnew (GC (Fu rfl rfl _) _ _ _) λb'=>by rw[Fu rfl rfl];simp)
    ·let O:List Value:=C.toList.take (g*P.cellsOf e)
     have holds:O=C.toList.take (g*P.cellsOf e):=rfl;have hol:O.length=g*P.cellsOf e:=by rw[holds];simp;omega
     have hrun:=run_append_grow (P:=P) (ty:=ty) w t e i z hu hi hz' ⟨b,0,none⟩ g p O (by rw[hol,hce]) (λj v hv=>by
       rw[Hk,AX,cell_of_row _ _ j C E _ J];rw[holds,Ak]at hv;split at hv
       ·rwa [Af]at hv
       ·cases hv) a I.length c o (by rw[hnl,hce]) hnews Fj Fj  (growslice_fits Fj (by simpa using hb))
     obtain⟨h1,h2⟩:=hc.freeze ho hob ⟨_,_,J⟩;have V:=h1.draw;have hge:=grownCap_ge w (g+I.length) p e;have hcm:grownCap w (g+I.length) p e<=maxLen:=grownCap_le_maxLen w _ p e (by unfold maxLen;omega);have hsize:(O.toArray++o.toArray++Builtin.zeroCells z.cells (grownCap w (g+I.length) p e - (g+I.length))).size=grownCap w (g+I.length) p e*P.cellsOf e:=by
      simp only[Cp,Bd,size_zeroCells,hcz,hol,hnl,<- hce,<- A1];congr 1;omega
     have hk:=h2.keeps;refine .value (by rw[AK,hrun];rfl) ⟨_,_,_,hr, ?_,(h2.trans Ik).trans (I_ V.h.fore _)⟩;have hl2:(H.set ob none).length=H.length:=F3;have:=V.newObj (cs++(Hx I).map borrow1) (O.toArray++o.toArray++Builtin.zeroCells z.cells (grownCap w (g+I.length) p e - (g+I.length))) e (by rw[hsize];simp;rw[hcl,hcl0,<- A1];exact BH _ hge)
      (λi d x hd' T=>by
       by_cases hlt:i<cs.length
       ·rw[Aa hlt]at hd';have hxo:O[i]? =some x:=by
         have e0:=Qr (olds:=O) (news:=o) (rest:=(Builtin.zeroCells z.cells (grownCap w (g+I.length) p e - (g+I.length))).toList) i Fj;rw[Br]at e0;rw[e0,Aa Fj]at T;exact T
        rw[holds,Ak,iP Fj,Af]at hxo;obtain⟨g1,g2,g3⟩:=hold i d x hd' hxo;exact⟨g1,(g2.keep hk).keep (Ik (F:=F)).keeps,Gb (by rw[g3];exact HF d _)⟩
       ·rw[AO Fj]at hd';obtain⟨c,v,rfl,s1,s2,s3⟩:=hget _ d hd';have hlt2:=(AD.1 s2).1;have e0:=Qr (olds:=O) (news:=o) (rest:=(Builtin.zeroCells z.cells (grownCap w (g+I.length) p e - (g+I.length))).toList) i Fj;rw[Br]at e0;rw[e0,AO Fj,hol,<- hcl0,s2]at T;cases T;exact⟨(Gz c).trans s1,((s3.keep hk).keep (Ik (F:=F)).keeps).borrow1,Gb (HF c _)⟩) (λx=>by rw[hcs',Jm];simp)
      (v:=.msl H.length 0 (g+I.length) (P.cellsOf e)) (u:=.slice (some ⟨w.heap.size,0,none⟩) (g+I.length) (grownCap w (g+I.length) p e))
      (.msl _ _ _ _ w.heap.size _ (by
       show((G.setKind b .imm).obs++[w.drew.heap.size])[H.length]? =_;rw[AO (by show G.obs.length<=_;omega)];show[w.drew.heap.size][H.length - G.obs.length]? =_;rw[hlen];simp) hge hcm ⟨_,e,heap_alloc_new _ _,by rw[hsize];omega⟩) (Fu rfl rfl _)
     exact this
def ZK {t e ty:Nat} {sv:AV} {o:List AV} {u v:Value} (hc:Ee F G [.sl (some 0) [],sv] H [u,v] w) (hx:Src G w (P.cellsOf e) o v) (hu:P.underlying t=some (.slice e)) (hpos:0<P.cellsOf e)
  (hxs:∀x∈o,x.cells.length=P.cellsOf e) (hz:HD P e=true) (T:0<o.length) (hb:o.length*P.bytesOf e<=140737488355328) (h63:o.length<=9223372036854775807)
  (hr:R (.msl H.length 0 o.length (P.cellsOf e)) (H++[some ((Hx o).map borrow1)])) :
  GR P ((do let r<-Builtin.append_ #[t,t] ty #[u,v];pure (Next.value r):Sem Next).run P w) (GB F G w R):=by
 have hs:=hc.l.rel 0 _ _ rfl rfl;unfold HD at hz;split at hz
 case h_2=>cases hz
 rename_i i hi;split at hz
 case h_2=>cases hz
 rename_i z hz';have hcz:z.cells.size=i.size:=by simpa using hz
 have hce:P.cellsOf e=i.size:=by simp[BU,hi]
 have hbe:P.bytesOf e=i.bytes:=by simp[Co,hi]
 rw[hbe]at hb;have hcl:=Hg hxs;have hlen:=hc.h.len;rcases hx with⟨rfl,rfl⟩|⟨a,c,p,rfl,V,U,hone,hcell⟩
 ·simp at T
 have hget:∀(i:Nat) (d:AV),((Hx o).map borrow1)[i]? =some d -> ∃c v,d=borrow1 c/\c.scalar=true/\p[i]? =some v/\Eg G w c v:=by
  intro i d hd;rw[Ac]at hd;cases hci:(Hx o)[i]? with
  |none=>rw[hci]at hd;cases hd
  |some c =>
   rw[hci]at hd;cases hd;obtain⟨s1,v,s2,s3⟩:=hcell i c hci;exact⟨c,v,rfl,s1,s2,s3⟩
 have done:∀(C:Array Value) (O:Nat),o.length<=O->O<=maxLen->(∀(i:Nat) (v:Value),p[i]? =some v->C[i]? =some v)->O*P.cellsOf e<=C.size ->
   GB F G w R (.slice (some ⟨w.heap.size,0,none⟩) o.length O) (w.drew.alloc (.cells C e)):=by
  intro C O h1 h2 h3 h4;have hd:=hc.draw;have hle:=BH (P.cellsOf e) h1;refine⟨_,_,_,hr, ?_,Ik.trans (I_ hd.h.fore _)⟩;exact hd.newObj ((Hx o).map borrow1) C e (by simp;rw[hcl];omega)
   (λi d x hd' hx'=>by
    obtain⟨c,v,rfl,s1,s2,s3⟩:=hget i d hd';rw[h3 i v s2]at hx';cases hx';exact⟨(Gz c).trans s1,(s3.keep (Ik (F:=F)).keeps).borrow1,Gb (HF c _)⟩) (λx=>by rw[Jm];simp)
   (v:=.msl H.length 0 o.length (P.cellsOf e)) (u:=.slice (some ⟨w.heap.size,0,none⟩) o.length O)
   (.msl _ _ _ _ w.heap.size _ (by
    show(G.obs++[w.drew.heap.size])[H.length]? =_;rw[AO Fj,hlen];simp) h1 h2 ⟨_,e,heap_alloc_new _ _,Fj⟩) (Fu rfl rfl _)
 have hzs:∀k,(Builtin.zeroCells z.cells k).size=k*P.cellsOf e:=λk=>by rw[size_zeroCells,hcz,hce]
 have g:∀I,(o.length<=grownCap w o.length I e/\grownCap w o.length I e<=maxLen):=λI=>⟨grownCap_ge w o.length I e,grownCap_le_maxLen w _ I e (by unfold maxLen;omega)⟩;generalize hA:AV.sl (some 0) []=A at hs;cases hs<;>cases hA
 ·have J:=run_append_nil (P:=P) w t ty e i z hu hi hz' a o.length c p (by rw[V,hce]) U T Fj Fj;refine .value (by rw[AK,J];rfl) (done _ _ (g 0).1 (g 0).2 (λi v hv=>?_) ?_)
  ·have hlt:=(AD.1 hv).1;rw[Dl (by simpa using hlt),Bl];exact hv
  ·have:=(g 0).1;simp only[Cp,Bd,hzs,V,<- A1];exact BH _ Fj
 ·rename_i ad;have J:=run_append_grow (P:=P) (ty:=ty) w t e i z hu hi hz' ad 0 0 [] F3 (λj v hv=>by simp at hv) a o.length c p (by rw[V,hce]) U Fj Fj  (growslice_fits Fj (by simpa using hb));simp only[AX]at J;refine .value (by rw[AK,J];rfl) (done _ _ (g 0).1 (g 0).2 (λi v hv=>?_) ?_)
  ·have hlt:=(AD.1 hv).1;have e0:=Qr (olds:=[]) (news:=p) (rest:=(Builtin.zeroCells z.cells (grownCap w o.length 0 e - o.length)).toList) i (by simpa using hlt);rw[Br]at e0;rw[e0];simpa using hv
  ·have:=(g 0).1;simp only[Cp,Bd,hzs,V,<- A1,AG,AX];exact BH _ Fj
 ·rename_i hown _ _ _ _;have:=(hown 0 rfl).2;omega
def ADb {t e ty ob off g sz:Nat} {cs:List AV} {z:AV} {u:Value} (hc:Ee F G [.msl ob off g sz] H [u] w) (ho:H[ob]? =some (some cs)) (hu:P.underlying t=some (.slice e)) (hzv:F8 P e=some z) (hsz:sz=z.cells.length) (hn:0<g)
  (hle:off+g*sz<=cs.length) (hr:R (.tup []) (H.set ob (some (splice cs off (HC z g))))) :
  GR P ((do let r<-Builtin.clear_ #[t] ty #[u];pure (Next.value r):Sem Next).run P w) (GB F G w R):=by
 subst hsz;have hp:=hc.l.rel 0 _ _ rfl rfl;obtain⟨O,hrun,hval,hcz,htz⟩:=Nc hzv;have hz0:=hcz F G w;have hzl:z.cells.length=O.cells.size:=by simpa using hz0.len
 cases hp with
 | msl _ _ _ _ b cap hob hlc hmx hrw =>
  obtain⟨C0,E0,hrow0,_⟩:=hrw;obtain⟨C,E,U,hCs,hC⟩:=hc.h.at_obj ho hob ⟨C0,E0,hrow0⟩;let L:List Value:=(Builtin.zeroCells O.cells g).toList
  have hL:L=(An (g*O.cells.size)).map λi=>O.cells[i % O.cells.size]!:=by
   show(Builtin.zeroCells O.cells g).toList=_;simp[Builtin.zeroCells]
  have hXl:(HC z g).length=g*z.cells.length:=by simp[HC]
  have hLl:L.length=g*z.cells.length:=by rw[hL,hzl];simp
  have V:∀(i:Nat) (c:AV) (v:Value),(HC z g)[i]? =some c->L[i]? =some v -> ∃j:Nat,z.cells[j]? =some c/\O.cells.toList[j]? =some v:=by
   intro i c v o h2;have T:i<g*z.cells.length:=by have:=(AD.1 o).1;omega
   have hpos:0<z.cells.length:=Nat.pos_of_ne_zero λh=>by rw[h]at T;simp at T
   have hj:i % z.cells.length<z.cells.length:=CY _ hpos;refine⟨i % z.cells.length, ?_, ?_⟩
   ·unfold HC at o;rw[Ac,CZ T]at o;simp only[Bb,Option.some.injEq]at o;rw[AL hj]at o ⊢;simpa using o
   ·rw[hL,Ac,<- hzl,CZ T]at h2;simp only[Bb,Option.some.injEq]at h2;have hj2:i % z.cells.length<O.cells.size:=Fj;rw[Af,Al hj2,<- h2,getElem!_pos O.cells _ hj2]
  have hcv:Cells F G w (HC z g) L:=⟨by rw[hXl,hLl],λi c v o h2=>by obtain⟨j,g1,g2⟩:=V i c v o h2;exact hz0.at_ j c v g1 g2⟩;have htk:Hd (HC z g) L=[]:=by
   unfold Hd at htz ⊢;rw[B5]at htz ⊢;intro p hp;obtain⟨i,T⟩:=Ab hp;rw[Bj]at T;obtain⟨j,g1,g2⟩:=V i _ _ T.1 T.2;exact htz p (AB (Bj.2 ⟨g1,g2⟩))
  have hst:=run_storeCells_at P b off E L 0 C w U (by rw[hLl];omega) hcv.oneCell;simp only[BG]at hst;let C':Array Value:=(C.toList.take off++L++C.toList.drop (off+L.length)).toArray
  have hC':C'=(C.toList.take off++L++C.toList.drop (off+L.length)).toArray:=rfl;have I:C'.size=C.size:=by rw[hC'];simp;omega
  have hrun2:(Builtin.clear_ #[t] ty #[.slice (some ⟨b,off,none⟩) g cap]).run P w = .ok (.tuple #[]) (w.setRow b C'):=by
   obtain⟨m,rfl⟩:∃m,g=m+1:=⟨g - 1,Fj⟩;simp[Builtin.clear_,run_underlying hu,hrun,hst,hC',L]
  have J:(splice cs off (HC z g)).length=cs.length:=NJ Fj;have hspl:C'.toList.take cs.length=Ie (C.toList.take cs.length) off L:=by
   rw[hC'];have:=U9 C.toList L off cs.length Fj (by simpa using hCs);simpa [Ie]using this
  have hCC:=hC.splice (off:=off) hcv;have hset:=hc.setObj ho hob U (C':=C') I (cs':=splice cs off (HC z g)) (by rw[J,I];exact hCs) (λi c y hc' hy=>?_) (vs:=[.tup []]) (us':=[.tuple #[]])
   (.cons (.tup [] #[] rfl (λ_ h=>by cases h) (λ_ _ _ h=>by cases h)) (GC (by simp[HY,L3,AV.flat,Io]) F G w) (.nil F G w)) (λy=>?_)
  ·exact .value (by rw[AK,hrun2];rfl) ⟨.tup [],_,G,hr,hset.1,hset.2⟩
  ·have T:=(AD.1 hc').1;refine hCC.at_ i c y hc' ?_;rw[<- hspl,Ak,iP Fj];simpa using hy
  ·have e0:HY (.tup []) (.tuple #[])=[]:=by simp[HY,L3,AV.flat,Io]
   rw[Fx,Gy,e0,Fx,Gy,Fu rfl rfl];have z1:(splice cs off (HC z g)).zip C'.toList=(splice cs off (HC z g)).zip (Ie (C.toList.take cs.length) off L):=by
    have:=Me (splice cs off (HC z g)) C'.toList;rw[J,hspl]at this;exact this
   rw[z1,Me cs C.toList];have o:=Ot (cs:=cs) (xs:=HC z g) (vs:=C.toList.take cs.length) (ys:=L) (off:=off) hC.len Fj y;rw[htk]at o;unfold Hd at o;simp only[Bk]at o ⊢;omega
end
end Go.AI
namespace Go.AI
open Go.MapKept
section
variable{P:Program}{F:Nat->Prop}{G:Gh}{w:World}{H:Fl}{R:AV->Fl->Prop}
def NH{g:List AV}(h:∀c∈g,c.scalar=true):Hx g=g:=by
 induction g with
 |nil=>rfl
 |cons c g j =>
  simp only[Hx,BA,MV (h c F3)];have:=j λo i=>h o (by simp[i]);simp only[Hx]at this;rw[this];rfl
def ZH {t ta e n:Nat} {p:List AV} {g:Nat} {u:Value} {J:List AV} {C:List Value} (hc:Ee F G (.cptr p g::J) H (u::C) w) (hu:P.underlying t=some (.pointer ta)) (ha:P.underlying ta=some (.array n e))
  (h1:P.cellsOf e=1) (hle:g+n<=p.length) (hm:n<=9223372036854775807) (hr:R (.sl none ((p.drop g).take n)) H) :
  GR P ((do let r<-Instr.sliceAt t u none none none;pure (Next.value r):Sem Next).run P w) (GB F G w R):=by
 have T:=hc.l.rel 0 _ _ rfl rfl;cases T with
 | cptr _ _ b q f g1 g2 =>
  have hb:=Hs (P:=P) (isSlice:=false) (len:=n) (cap:=n) (.none) (.none) .none (λh=>by cases h) F3 F3  F3 F3  w;have U:=HG (P:=P) (t:=e) (by rw[h1];exact EG) w;have O:((p.drop g).take n).length=n:=IG;have o:∀(i:Nat) (c:AV),((p.drop g).take n)[i]? =some c->p[g+i]? =some c:=λi c j=>by
   rw[Ak]at j;split at j
   ·rwa [A4]at j
   ·cases j
  have I:∀c∈(p.drop g).take n,c.scalar=true:=λc V=>by
   obtain⟨i,j⟩:=Ab V;exact(g1 _ c (o i c j)).1
  refine .value (u:=.slice (some ⟨b,q+g,none⟩) n n) (w':=w) ?_ (GB.plain hc hr ?_ (Gs rfl _))
  ·simp only[Instr.sliceAt,Instr.slice,AK,run_underlying hu,Ad,asAddr,Ae,run_underlying ha,hb,U,h1];simp[Hk]
  ·have hv:=VRel.sl (G:=G) (w:=w) none ((p.drop g).take n) 1 b (q+g) n (λi=>f (g+i)) (λx T=>by rw[MV (I x T)];rfl) (λ_ h=>by cases h) Fj (by unfold maxLen;omega)
    (λi c j=>by
     rw[NH I]at j;have:=g1 _ c (o i c j);rw[AT];exact this)
    (λi c j=>by
     rw[NH I]at j;exact g2 _ c (o i c j))
   rw[O]at hv;exact hv
def W6 {t e n:Nat} {p:List AV} {g:Nat} {u:Value} {J:List AV} {C:List Value} (hc:Ee F G (.cptr p g::J) H (u::C) w) (ha:P.underlying t=some (.array n e))
  (h1:P.cellsOf e=1) (hle:g+n<=p.length) (hm:n<=9223372036854775807) (hr:R (.sl none ((p.drop g).take n)) H) :
  GR P ((do let r<-Instr.sliceAt t u none none none;pure (Next.value r):Sem Next).run P w) (GB F G w R):=by
 have T:=hc.l.rel 0 _ _ rfl rfl;cases T with
 | cptr _ _ b q f g1 g2 =>
  have hb:=Hs (P:=P) (isSlice:=false) (len:=n) (cap:=n) (.none) (.none) .none (λh=>by cases h) F3 F3  F3 F3  w;have U:=HG (P:=P) (t:=e) (by rw[h1];exact EG) w;have O:((p.drop g).take n).length=n:=IG;have o:∀(i:Nat) (c:AV),((p.drop g).take n)[i]? =some c->p[g+i]? =some c:=λi c j=>by
   rw[Ak]at j;split at j
   ·rwa [A4]at j
   ·cases j
  have I:∀c∈(p.drop g).take n,c.scalar=true:=λc V=>by
   obtain⟨i,j⟩:=Ab V;exact(g1 _ c (o i c j)).1
  refine .value (u:=.slice (some ⟨b,q+g,none⟩) n n) (w':=w) ?_ (GB.plain hc hr ?_ (Gs rfl _))
  ·simp only[Instr.sliceAt,Instr.sureAddr,AK,Ad,Ae,run_underlying ha,hb,U,h1];simp[Hk]
  ·have hv:=VRel.sl (G:=G) (w:=w) none ((p.drop g).take n) 1 b (q+g) n (λi=>f (g+i)) (λx T=>by rw[MV (I x T)];rfl) (λ_ h=>by cases h) Fj (by unfold maxLen;omega)
    (λi c j=>by
     rw[NH I]at j;have:=g1 _ c (o i c j);rw[AT];exact this)
    (λi c j=>by
     rw[NH I]at j;exact g2 _ c (o i c j))
   rw[O]at hv;exact hv
def cO{t e n o j:Nat}{T:List AV}{u:Value}{J:List AV}{p:List Value}(U:Ee F G (.ptr o j::J) H (u::p) w)(ha:P.underlying t=some (.array n e))
  (hi:(P.info? e).isSome=true)(ho:H[o]? =some (some T))(hle:j+n*P.cellsOf e<=T.length)(hm:n<=9223372036854775807)(hr:R (.msl o j n (P.cellsOf e)) H):
  GR P ((do let r<-Instr.sliceAt t u none none none;pure (Next.value r):Sem Next).run P w) (GB F G w R):=by
 have hx:=U.l.rel 0 _ _ rfl rfl;obtain⟨i,V⟩:=Bm.1 hi;have I:∀w,(sizeOf e).run P w = .ok (P.cellsOf e) w:=λw=>by simp[sizeOf,typeInfo,V,BU]
 cases hx with
 |ptr _ _ b O g =>
  obtain⟨C0,E0,g⟩:=g;obtain⟨_,C,E,g2,g3,_⟩:=(U.h.obj o T b ho O).of_cells g;have hb:=Hs (P:=P) (isSlice:=false) (len:=n) (cap:=n) (.none) (.none) .none (λh=>by cases h) F3 F3  F3 F3  w;refine .value (u:=.slice (some ⟨b,j,none⟩) n n) (w':=w) ?_ (GB.plain U hr (.msl _ _ _ _ b n O (AS _) (by unfold maxLen;omega) ⟨C,E,g2,Fj⟩) (Fu rfl rfl _));simp only[Instr.sliceAt,Instr.sureAddr,AK,Ad,Ae,run_underlying ha,hb,I];simp[Hk]
def ZI{t e:Nat}{J:Option Nat}{es:List AV}{u:Value}{C:List AV}{j:List Value}{O T:Option Value}(I:Ee F G (.sl J es::C) H (u::j) w)(hu:P.underlying t=some (.slice e))
  (hh:Ef O (some 0))(hm:Ef T (some 0))(hz:(P.info? e).isSome=true)(U:R (.sl (some 0) []) H):
  GR P ((do let r<-Instr.sliceAt t u none O T;pure (Next.value r):Sem Next).run P w) (GB F G w R):=by
 have hx:=I.l.rel 0 _ _ rfl rfl;obtain⟨i,V⟩:=Bm.1 hz;have o:∀w,(sizeOf e).run P w = .ok (P.cellsOf e) w:=λw=>by simp[sizeOf,typeInfo,V,BU]
 have run:∀(a:Option Addr) (p g:Nat),(Instr.sliceAt t (.slice a p g) none O T).run P w = .ok (.slice a 0 0) w:=λa p g=>by
  have hb:=Hs (P:=P) (isSlice:=true) (len:=p) (cap:=g) .none hh hm (λ_=>rfl) F3 F3  F3 F3  w;simp only[Instr.sliceAt,Instr.slice,AK,run_underlying hu,Ad,hb,o];simp
 have nt:∀a:Option Addr,HY (.sl (some 0) []) (.slice a 0 0)=[]:=λa=>by cases a<;>simp[HY,L3,AV.flat,AV.cells,Io,Value.cells,tok]
 cases hx with
 |slnil=>exact .value (by rw[AK,run];rfl) (GB.plain I U (.slnil _) (nt _))
 |slany _ a=>exact .value (by rw[AK,run];rfl) (GB.plain I U (.slany _ _) (nt _))
 |sl _ _ sz b q g f hsz hown hl hmx hcs hus=>exact .value (by rw[AK,run];rfl) (GB.plain I U (.slany _ _) (nt _))
def ABz{t:TypeId}{z:AV}(h:F8 P t=some z): ∃ C,(∀ w,(zeroValue t).run P w = .ok C w)/\z.isVal=true/\Eg G w z C:=by
 obtain⟨O,g,I,j,_⟩:=Nc (P:=P) h;refine⟨O,g,I, ?_⟩;unfold F8 at h;split at h
 ·rename_i R o;split at h
  ·cases h;cases p:P.info? t with
   |none=>rw[p]at o;cases o
   |some i =>
    rw[p]at o;have r:i.zero=some (.agg R):=o;have J:(zeroValue t).run P default = .ok (.agg R) default:=by simp[zeroValue,typeInfo,p,r]
    rw[g default]at J;cases J;have:=(rq (j (λ_=>False) G w)).1;exact this
  ·cases h
 ·rename_i C T o;split at h
  ·cases h;cases p:P.info? t with
   |none=>rw[p]at o;cases o
   |some i =>
    rw[p]at o;have r:i.zero=some C:=o;have J:(zeroValue t).run P default = .ok C default:=by simp[zeroValue,typeInfo,p,r]
    rw[g default]at J;cases J;exact VRel.constT G w _ _
  ·cases h
 ·cases h
def jb{t:TypeId}{r:Option Value}{I:List AV}{J:List Value}(C:Ee F G I H J w)(g:(Instr.makeMap t r).run P w = .ok (.map (some w.heap.size)) (w.alloc (.map #[] 0)))(O:R (.mapr H.length) (H++[some (Kn [])])):
  GR P ((do let v<-Instr.makeMap t r;pure (Next.value v):Sem Next).run P w) (GB F G w R):=by
 refine .value (by rw[AK,g];rfl) ⟨_,_,G.newK w.heap.size .map,O, ?_,OA C.h.fore _ _⟩;have j:(G.newK w.heap.size .map).kind w.heap.size = .map:=G.kind_set _ _;have o:=C.h.len;refine C.newG .map (.map #[] 0) (Kn []) ⟨λT=>absurd (C.h.fore _ T) (Bu _), ?_⟩ (.cons (.mapr _ _ ?_ (by rw[size_alloc];omega) j) (GC (Gs rfl _) F _ _) (.nil F _ _)) (λb=>?_)
 ·rw[j];exact⟨[],#[],0,heap_alloc_new _ _,rfl,rfl,(λi p m h=>by simp at h),rfl,λi m h=>by simp at h⟩
 ·show(G.obs++[w.heap.size])[H.length]? =_;rw[AO Fj,o,AP];rfl
 ·rw[Fx,Gy,Gs rfl];simp[YJ]
def pG{t:TypeId}(g:Ee F G [] H [] w)(i:R (.mapr H.length) (H++[some (Kn [])])):
  GR P ((do let v<-Instr.makeMap t none;pure (Next.value v):Sem Next).run P w) (GB F G w R) :=
 jb g (by simp[Instr.makeMap]) i
def Vf{t i j:TypeId}{k:IntKind}{n:Int}{u:Value}(g:Ee F G [.int k n] H [u] w)(o:P.underlying t=some (.map i j))(p:R (.mapr H.length) (H++[some (Kn [])])):
  GR P ((do let v<-Instr.makeMap t (some u);pure (Next.value v):Sem Next).run P w) (GB F G w R):=by
 have r:=g.l.rel 0 _ _ rfl rfl;cases r;exact jb g (by simp[Instr.makeMap,run_underlying o,asInt,asIntOf,Bn]) p
def UJ{m:AV}{C:Value}{j:List (AV×AV)}{P:List AV}{R:List Value}(T:Ee F G P H R w)(U:Eg G w m C)(g:JZ H m=some j):
  (m = .nilm/\C = .map none/\j=[]) \/ ∃o b r I,m = .mapr o/\C = .map (some b)/\G.obs[o]? =some b/\G.kind b = .map/\w.heap[b]? =some (.map r I)/\j.length=r.size/\H[o]? =some (some (Kn j)) /\
   ∀(i:Nat) (p:AV×AV) (x:MapEntry),j[i]? =some p->r[i]? =some x->p.1.isVal=true/\p.2.isVal=true/\Eg G w p.1 x.key/\Eg G w p.2 x.val:=by
 cases U with
 |nilm=>simp only[JZ,Option.some.injEq]at g;exact .inl ⟨rfl,rfl,g.symm⟩
 | mapr o b h hb J =>
  refine .inr ?_;simp only[JZ]at g;split at g
  ·rename_i V t;have O:=(T.h.obj o V b t h).is;rw[J]at O;obtain⟨es',r,I,g1,g2,g3,g4,_⟩:=O;subst g2;rw[U6]at g;cases g;exact⟨o,b,r,I,rfl,rfl,h,J,g1,g3,t,g4⟩
  ·cases g
 |_=>simp[JZ]at g
def Mp{o b:Nat}{g:Array MapEntry}{p:Nat}{r:List AV}{I:List AV}{J:List Value}(O:Ee F G I H J w)(P:H[o]? =some (some r))(R:G.obs[o]? =some b)(T:G.kind b = .map)(j:w.heap[b]? =some (.map g p)):
  p=g.size /\ ∀(i:Nat) (m:MapEntry),g[i]? =some m->m.born=i:=by
 have t:=(O.h.obj o r b P R).is;rw[T]at t;obtain⟨U,V,cl',C,_,_,_,g5⟩:=t;rw[j]at C;cases C;exact g5
def tg {kt:TypeId} {D:Value->Prop} (K:KLaw P kt D) {k:AV} {R:Value} {g:List (AV×AV)} {o:Array MapEntry} (hk:Eg G w k R) (hkD : ∃ v,UQ k=some v/\D v) (hl:g.length=o.size)
  (hD:∀a∈g.map (·.1),∃v,UQ a=some v/\D v) (hd:TG g)
  (hr:∀(i:Nat) (p:AV×AV) (x:MapEntry),g[i]? =some p->o[i]? =some x->p.1.isVal=true/\p.2.isVal=true/\Eg G w p.1 x.key/\Eg G w p.2 x.val) :
  D R/\((Jx k g 0=none/\(Instr.findKey kt R o.toList).run P w = .ok none w) \/
   ∃j p x,Jx k g 0=some (j,p.2)/\g[j]? =some p/\o[j]? =some x/\x.key=R/\(Instr.findKey kt R o.toList).run P w = .ok (some (j,x.val)) w):=by
 obtain⟨vk,t,T⟩:=hkD;have huk:=Xb t hk;subst huk;have C:∀(j:Nat) (x:MapEntry),o[j]? =some x -> ∃p,g[j]? =some p/\UQ p.1=some x.key/\D x.key:=λj x I=>by
  have J:=(Au.1 I).1;have r:g[j]? =some g[j]:=AL Fj;obtain⟨v,U,hDv⟩:=hD g[j].1 (AN.2 ⟨_,AB r,rfl⟩);have:=Xb U (hr j _ x r I).2.2.1;subst this;exact⟨_,r,U,hDv⟩
 refine⟨T, ?_⟩;rcases K.find w T o.toList (λx V=>by
  obtain⟨j,I⟩:=Ab V;rw[Af]at I;obtain⟨p,_,_,h⟩:=C j x I;exact h)with⟨h1,h2⟩|⟨j,x,h1,h2,h3⟩
 ·refine .inl ⟨YT λp r=>?_,h1⟩;obtain⟨j,I⟩:=Ab r;have J:=(AD.1 I).1;have V:o[j]? =some (o[j]' Fj):=Al _;obtain⟨p',hp',hv',_⟩:=C j _ V;rw[I]at hp';cases hp';cases O:If p.1 k with
  |false=>rfl
  |true =>
   exact absurd ((Qp hv' t).1 O) (h2 _ (by rw[<- Af]at V;exact AB V))
 ·rw[Af]at h2;obtain⟨p,r,U,_⟩:=C j x h2;have hke:If p.1 k=true:=(Qp U t).2 h3;refine .inr ⟨j,p,x, ?_,r,h2,h3,h1⟩;have:=mJ (k:=k) (i:=0) r hke (λl q O J=>by
   have h4:=List.pairwise_iff_getElem.1 hd l j (AD.1 O).1 (AD.1 r).1 J;rw[(AD.1 O).2,(AD.1 r).2]at h4;have hq2:o[l]? =some (o[l]'(by have:=(AD.1 O).1;omega)):=Al _;obtain⟨q',hq',hvq,_⟩:=C l _ hq2;rw[O]at hq';cases hq';cases hqe:If q.1 k with
   |false=>rfl
   |true =>
    have e1:=(Qp hvq t).1 hqe;have e2:If q.1 p.1=true:=(Qp hvq U).2 (e1.trans h3.symm);rw[e2]at h4;cases h4)
  rw[AX]at this;exact this
def vq {t kt et:TypeId} {I:Bool} {m k:AV} {um uk:Value} {es:List (AV×AV)} {z:AV} (hc:Ee F G [m,k] H [um,uk] w) (hu:P.underlying t=some (.map kt et)) (he:JZ H m=some es)
  (hk:NS P kt (k::es.map (·.1))) (hd:TG es) (hz:F8 P et=some z) (hr:R (je I z (Jx k es 0)) H) :
  GR P ((do let r<-Instr.lookup t um uk I;pure (Next.value r):Sem Next).run P w) (GB F G w R):=by
 have hm:=hc.l.rel 0 _ _ rfl rfl;have hkr:=hc.l.rel 1 _ _ rfl rfl;obtain⟨D,K,hD⟩:=hk;obtain⟨zv,hzr,J,hzv⟩:=ABz (P:=P) (G:=G) (w:=w) hz;have U:∀(v:AV) (u:Value) (b:Bool),Eg G w v u->v.isVal=true->R (if I=true then .tup [v.borrow,.bool b]else v.borrow) H ->
   GR P (.ok (.value (if I=true then .tuple #[u,.bool b]else u)) w) (GB F G w R):=by
  intro v u b hv T hR;cases I with
  |false=>exact GB.plain hc hR hv.borrow (HE _ _)
  | true =>
   refine GB.plain hc hR ?_ ?_
   ·refine .tup _ _ rfl (λc C=>?_) (λi c x V h2=>?_)
    ·simp only[List.mem_cons,List.not_mem_nil,or_false]at C;rcases C with rfl|rfl
     ·cases v<;>first|rfl|cases T
     ·rfl
    ·match i with
     | 0=>simp at V h2;subst V;subst h2;exact hv.borrow
     | 1=>simp at V h2;subst V;subst h2;exact .bool b
     |i+2=>simp at V
   ·refine Gs ?_ _;show((([v.borrow,AV.bool b]:List AV).flatMap AV.cells).any GY)=false;have:∀c∈v.borrow.cells,GY c=false:=λc C=>by
     have hb:v.borrow.cells=v.cells.map borrow1:=by cases v<;>first|rfl|cases T
     rw[hb]at C;obtain⟨d,_,rfl⟩:=AN.1 C;cases d<;>rfl
    simp only[BA,List.flatMap_nil,Ai,List.any_append,CF];refine⟨?_,rfl⟩;rw[Bp];intro c C h;rw[this c C]at h;cases h
 rcases UJ hc hm he with⟨rfl,rfl,rfl⟩|⟨o,b,ms,cl,rfl,rfl,hob,hkb,hms,hl,hH,O⟩
 ·obtain⟨v,hv,hDv⟩:=hD k F3;have huk:=Xb hv hkr;subst huk;have hfind:(Instr.findKey kt uk []).run P w = .ok none w:=by
   rcases K.find w hDv [] (λ_ h=>by cases h)with⟨V,_⟩|⟨j,e,_,h2,_⟩
   ·exact V
   ·simp at h2
  have g:(do let r<-Instr.lookup t (.map none) uk I;pure (Next.value r):Sem Next).run P w = .ok (.value (if I=true then .tuple #[zv,.bool false]else zv)) w:=by
   simp[Instr.lookup,run_underlying hu,Bn,K.check w _ hDv,hfind,hzr]
  rw[g];exact U z zv false hzv J hr
 ·obtain⟨hDk,hf⟩:=tg K hkr (hD k F3) hl (λa ha=>hD a (by simp at ha ⊢;exact .inr ha)) hd O;rcases hf with⟨f1,f2⟩|⟨j,p,x,f1,f2,f3,f4,f5⟩
  ·have g:(do let r<-Instr.lookup t (.map (some b)) uk I;pure (Next.value r):Sem Next).run P w = .ok (.value (if I=true then .tuple #[zv,.bool false]else zv)) w:=by
    simp[Instr.lookup,run_underlying hu,Bn,MapKept.run_getObj_map hms,K.check w _ hDk,f2,hzr]
   rw[g];rw[f1]at hr;exact U z zv false hzv J hr
  ·have g:(do let r<-Instr.lookup t (.map (some b)) uk I;pure (Next.value r):Sem Next).run P w = .ok (.value (if I=true then .tuple #[x.val,.bool true]else x.val)) w:=by
    simp[Instr.lookup,run_underlying hu,Bn,MapKept.run_getObj_map hms,K.check w _ hDk,f5]
   rw[g];rw[f1]at hr;exact U p.2 x.val true (O j p x f2 f3).2.2.2 (O j p x f2 f3).2.1 hr
def cQ {t kt et:TypeId} {o:Nat} {k v:AV} {um uk uv:Value} {es:List (AV×AV)} (hc:Ee F G [.mapr o,k,v] H [um,uk,uv] w) (hu:P.underlying t=some (.map kt et)) (he:JZ H (.mapr o)=some es)
  (hk:NS P kt (k::es.map (·.1))) (hd:TG es) (hval:v.isVal=true) (hr:R .undef (H.set o (some (Kn (NO es k v))))) :
  GR P ((do Instr.mapUpdate t um uk uv;pure Next.skip:Sem Next).run P w) (GB F G w R):=by
 have hm:=hc.l.rel 0 _ _ rfl rfl;have hkr:=hc.l.rel 1 _ _ rfl rfl;have hvr:=hc.l.rel 2 _ _ rfl rfl;obtain⟨D,K,hD⟩:=hk;rcases UJ hc hm he with⟨h,_⟩|⟨o',b,ms,cl,ho,rfl,hob,hkb,J,hl,hH,V⟩
 ·cases h
 cases ho;obtain⟨hDk,hf⟩:=tg K hkr (hD k F3) hl (λa ha=>hD a (by simp at ha ⊢;exact .inr ha)) hd V;have hkval:k.isVal=true:=AEB (hD k F3).choose_spec.1;have hsp:(G.kind b).sp=true:=by rw[hkb];rfl
 have hor:=hc.h.obj o _ b hH hob;obtain⟨hcl,C⟩:=Mp hc hH hob hkb J;have lay:∀(r:Array MapEntry) (O:Nat) (T:List (AV×AV)),T.length=r.size->(O=r.size /\ ∀(i:Nat) (m:MapEntry),r[i]? =some m->m.born=i)->R .undef (H.set o (some (Kn T))) ->
   (∀(i:Nat) (p:AV×AV) (x:MapEntry),T[i]? =some p->r[i]? =some x->p.1.isVal=true/\p.2.isVal=true/\Eg G w p.1 x.key/\Eg G w p.2 x.val) ->
   GB F G w R Go.undef (w.putObj b (.map r O)):=by
  intro r O T hl' hbo hR hrel';have he2:Ext F G w G (w.putObj b (.map r O)):=LS hor.own J (λ_ _ _ e=>by cases e);obtain⟨h1,h2⟩:=hc.setSp (X:=.map r O) hH hob hsp (λ_ _ _ e=>by cases e) (cs':=Kn T) ⟨hor.own,by
   rw[hkb];exact⟨T,r,O,World.putObj_heap_same hor.lt,rfl,hl',(λi p x I U =>
    let⟨a1,a2,a3,a4⟩:=hrel' i p x I U;⟨a1,a2,a3.keep he2.keeps,a4.keep he2.keeps⟩),hbo⟩⟩
   (vs:=[.undef]) (us':=[Go.undef]) (.cons (.undef _) (GC (IF _) F G w) (.nil F G w)) (λx=>by rw[Fx,Gy,IF];simp)
  exact⟨_,_,G,hR,h1,h2⟩
 rcases hf with⟨f1,f2⟩|⟨j,p,x,f1,f2,f3,f4,f5⟩
 ·have hrun:(do Instr.mapUpdate t (.map (some b)) uk uv;pure Next.skip:Sem Next).run P w = .ok .skip (w.putObj b (.map (ms.push { key:=uk,val:=uv,born:=cl }) (cl+1))):=by
   simp[Instr.mapUpdate,run_underlying hu,Bn,MapKept.run_getObj_map J,K.check w _ hDk,f2,MapKept.run_setObj_map _ J,World.putObj]
  rw[hrun];simp only[NO,f1]at hr;refine lay _ _ (es++[(k,v)]) (by simp[hl]) ⟨by simp[hcl],λi m g=>?_⟩ hr λi p x I U=>?_
  ·by_cases hi:i<ms.size
   ·rw[EH hi]at g;exact C i m (by rw[Al hi];exact g)
   ·have hlt:=(Au.1 g).1;simp only[Array.size_push]at hlt;have:i=ms.size:=Fj;subst this;rw[EI]at g;cases g;exact hcl
  by_cases hi:i<es.length
  ·rw[Aa hi]at I;rw[EH Fj]at U;exact V i p x I (by rw[Al Fj];exact U)
  ·have hlt:=(AD.1 I).1;simp only[AE,AC,AG]at hlt;have hie:i=es.length:=Fj;subst hie;rw[AO (AS _),AP]at I;rw[hl,EI]at U;cases I;cases U;exact⟨hkval,hval,hkr,hvr⟩
 ·have hrun:(do Instr.mapUpdate t (.map (some b)) uk uv;pure Next.skip:Sem Next).run P w = .ok .skip (w.putObj b (.map (ms.modify j λe=>{ e with key:=uk,val:=uv }) cl)):=by
   simp[Instr.mapUpdate,run_underlying hu,Bn,MapKept.run_getObj_map J,K.check w _ hDk,f5,f3,f4,K.stays w hDk,MapKept.run_setObj_map _ J,World.putObj]
  rw[hrun];simp only[NO,f1]at hr;refine lay _ _ (es.set j (k,v)) (by simp[hl]) ⟨by simp[hcl],λi m g=>?_⟩ hr λi q y I U=>?_
  ·rw[EJ]at g;split at g
   ·rename_i hij;subst hij;rw[f3]at g;simp only[Bb,Option.some.injEq]at g;rw[<- g];have hb:x.born=j:=C _ _ f3;exact hb
   ·exact C i m g
  rw[Az]at I;rw[EJ]at U;split at I
  ·rename_i hij;subst hij;split at I
   ·rw[iP rfl,f3]at U;cases I;cases U;exact⟨hkval,hval,hkr,hvr⟩
   ·cases I
  ·rename_i hij;rw[iN hij]at U;exact V i q y I U
end
end Go.AI
namespace Go.AI
section
variable{P:Program}{F:Nat->Prop}{G:Gh}{w:World}{H:Fl}{R:AV->Fl->Prop}
def oF(l:List Nat):Tw (l.map λ(i:Nat)=>AV.int .i64 (i:Int))=l.map λ(i:Nat)=>(i:Int):=by
 induction l with
 |nil=>rfl
 |cons x g j =>
  show(x:Int)::Tw (g.map λ(i:Nat)=>AV.int .i64 (i:Int))=_;rw[j];rfl
def UR{t:TypeId}{u:Value}{X:Obj}{o:List AV}{I:List AV}{J:List Value}(p:Ee F G I H J w)(g:(Instr.range t u).run P w = .ok (.pointer (some ⟨w.heap.size,0,none⟩)) (w.alloc X))
  (O:∀C E f,X ≠ .cells C E f)(r:fq (G.newK w.heap.size .iter) (w.alloc X) o w.heap.size)(T:R (.it H.length) (H++[some o])):
  GR P ((do let v<-Instr.range t u;pure (Next.value v):Sem Next).run P w) (GB F G w R):=by
 refine .value (by rw[AK,g];rfl) ⟨_,_,G.newK w.heap.size .iter,T, ?_,OA p.h.fore _ _⟩;have i:(G.newK w.heap.size .iter).kind w.heap.size = .iter:=G.kind_set _ _;have j:=p.h.len;refine p.newG .iter X o ⟨λU=>absurd (p.h.fore _ U) (Bu _),by rw[i];exact r⟩ (.cons (.it _ _ ?_ (by rw[size_alloc];omega) i) (GC (Gs rfl _) F _ _) (.nil F _ _)) (λb=>?_)
 ·show(G.obs++[w.heap.size])[H.length]? =_;rw[AO Fj,j,AP];rfl
 ·rw[Fx,Gy,Gs rfl];have:YJ o X=[]:=by cases X<;>first|rfl|exact absurd rfl (O _ _ _)
  rw[this];simp
def ADY{t:TypeId}{x:AV}{u:Value}(i:Ee F G [x] H [u] w)(g:SQ P t H x R):
  GR P ((do let v<-Instr.range t u;pure (Next.value v):Sem Next).run P w) (GB F G w R):=by
 have I:=i.l.rel 0 _ _ rfl rfl;unfold SQ at g;split at g
 ·rename_i s j;cases I;exact UR i (by simp[Instr.range,run_underlying j,Bn]) (λ_ _ _ e=>by cases e) (.inl ⟨s,0,heap_alloc_new _ _,rfl⟩) g
 ·rename_i j;cases I;exact UR i (by simp[Instr.range,run_underlying j,Bn]) (λ_ _ _ e=>by cases e) (.inr (.inl ⟨heap_alloc_new _ _,rfl⟩)) g
 ·rename_i kt et o' j;split at g
  ·rename_i es he;rcases UJ i I he with⟨h,_⟩|⟨o,b,ms,p,ho,rfl,J,O,r,hl,hH,V⟩
   ·cases h
   cases ho;obtain⟨T,U⟩:=Mp i hH J O r;have C:=OA (F:=F) (G:=G) i.h.fore (.mapIter (some b) p #[] p) .iter;refine UR (X:=.mapIter (some b) p #[] p) i (by simp[Instr.range,run_underlying j,Bn,MapKept.run_getObj_map r]) (λ_ _ _ e=>by cases e) (.inr (.inr ⟨o',b,p,[],heap_alloc_new _ _, ?_,I.keep C.keeps⟩)) g;rw[T,<- hl]
  ·exact g.elim
 ·exact g.elim
def WM{o:Nat}{u:Value}{g:List AV}{p:List AV}{r:List Value}(t:Ee F G p H r w)(C:Eg G w (.it o) u)(I:H[o]? =some (some g)): ∃b,u = .pointer (some ⟨b,0,none⟩)/\G.obs[o]? =some b/\G.kind b = .iter/\fq G w g b:=by
 cases C with
 |it _ b h J i =>
  have j:=(t.h.obj o g b I h).is;rw[i]at j;exact⟨b,rfl,h,i,j⟩
def WA{vs:List AV}{us:Array Value}(T:∃a J,Ee F G a H J w)(O:vs.length=us.size)(C:∀(i:Nat) (c:AV) (u:Value),vs[i]? =some c->us[i]? =some u->c.isVal=true/\c.borrow=c/\Eg G w c u):
  Eg G w (.tup vs) (.tuple us)/\HY (.tup vs) (.tuple us)=[]:=by
 have j:∀c∈vs,c.isVal=true/\c.borrow=c:=λc g=>by
  obtain⟨i,I⟩:=Ab g;have P:=(AD.1 I).1;obtain⟨o,p,_⟩:=C i c _ I (Al Fj);exact⟨o,p⟩
 refine⟨.tup _ _ O (λc g=>(j c g).1) λi c x o p=>(C i c x o p).2.2,Gs ?_ _⟩;show((vs.flatMap AV.cells).any GY)=false;rw[Bp];intro c g h;obtain⟨v,t,r⟩:=B1.1 g;obtain⟨o,p⟩:=j v t;have R:v.borrow.cells=v.cells.map borrow1:=by cases v<;>first|rfl|cases o
 rw[<- p,R]at r;obtain⟨d,_,rfl⟩:=AN.1 r;cases d<;>cases h
def Jh{v:AV}(h:v.isVal=true):v.borrow.borrow=v.borrow/\v.borrow.isVal=true:=by
 refine⟨?_,by cases v<;>first|rfl|cases h⟩;cases v with
 |agg g =>
  show AV.agg ((g.map borrow1).map borrow1)=AV.agg (g.map borrow1);rw[Bs];congr 1;apply List.map_congr_left;intro c _;cases c<;>rfl
 |tup _=>cases h
 |_=>rfl
def AHs{o':Nat}{u:Value}{str:Bool}{ty:TypeId}(g:Ee F G [.it o'] H [u] w)(hr:YQ str H o' R):
  GR P ((do let v<-Instr.next u str ty;pure (Next.value v):Sem Next).run P w) (GB F G w R):=by
 have hx:=g.l.rel 0 _ _ rfl rfl;unfold YQ at hr;have r:(∃a ua,Ee F G a H ua w)->Eg G w (.tup [.bool false]) (.tuple #[.bool false])/\HY (.tup [.bool false]) (.tuple #[.bool false])=[]:=λh=>WA h rfl λi c x V t=>by
  match i with
  | 0=>simp at V t;subst V;subst t;exact⟨rfl,rfl,.bool false⟩
  |i+1=>simp at V
 split at hr
 · -- over a string
  rename_i s pos ho;obtain⟨b,rfl,hob,hkb,O⟩:=WM g hx ho;rcases O with⟨s',T,V,t⟩|⟨_,t⟩|⟨_,_,_,_,_,t,_⟩
  ·cases t;rw[AZ]at hr;by_cases hp:T<s.size
   ·rw[iP hp]at hr;have U:(do let v<-Instr.next (.pointer (some ⟨b,0,none⟩)) true ty;pure (Next.value v):Sem Next).run P w = .ok (.value (.tuple #[.bool true,goInt T,.int .i32 (Utf8.decode s T).1])) (w.putObj b (.stringIter s (T+(Utf8.decode s T).2))):=by
     simp[Instr.next,getObj,setObj,Dm,V,Bn,hp,World.putObj]
    have hor:=g.h.obj o' _ b ho hob;have he2:Ext F G w G (w.putObj b (.stringIter s (T+(Utf8.decode s T).2))):=LS hor.own V (λ_ _ _ e=>by cases e);obtain⟨g1,g2⟩:=WA (G:=G) (w:=w) (F:=F) (H:=H) (vs:=[.bool true,.int .i64 T,.int .i32 (Utf8.decode s T).1]) (us:=#[.bool true,goInt T,.int .i32 (Utf8.decode s T).1]) ⟨_,_,g⟩ rfl λi c x k1 k2=>by
     match i with
     | 0=>simp at k1 k2;subst k1;subst k2;exact⟨rfl,rfl,.bool true⟩
     | 1=>simp at k1 k2;subst k1;subst k2;exact⟨rfl,rfl,.int _ _⟩
     | 2=>simp at k1 k2;subst k1;subst k2;exact⟨rfl,rfl,.int _ _⟩
     |i+3=>simp at k1
    obtain⟨h3,h4⟩:=g.setSp (X:=.stringIter s (T+(Utf8.decode s T).2)) ho hob (by rw[hkb];rfl) (λ_ _ _ e=>by cases e) (cs':=Xe s ((T+(Utf8.decode s T).2:Nat):Int)) ⟨hor.own,by
     rw[hkb];exact .inl ⟨s,_,World.putObj_heap_same hor.lt,rfl⟩⟩ (.cons g1 (GC g2 F G w) (.nil F G w)) (λx=>by rw[Fx,Gy,g2];simp)
    rw[U];exact⟨_,_,G,hr,h3,h4⟩
   ·rw[iN hp]at hr;have U:(do let v<-Instr.next (.pointer (some ⟨b,0,none⟩)) true ty;pure (Next.value v):Sem Next).run P w = .ok (.value (.tuple #[.bool false])) w:=by
     simp[Instr.next,getObj,Dm,V,Bn,hp]
    rw[U];exact GB.plain g hr (r ⟨_,_,g⟩).1 (r ⟨_,_,g⟩).2
  ·cases t
  ·cases t
 · -- over no map
  rename_i ho;obtain⟨b,rfl,hob,hkb,O⟩:=WM g hx ho;rcases O with⟨s',T,V,t⟩|⟨V,t⟩|⟨_,_,_,_,_,t,_⟩
  ·cases t
  ·have U:(do let v<-Instr.next (.pointer (some ⟨b,0,none⟩)) false ty;pure (Next.value v):Sem Next).run P w = .ok (.value (.tuple #[.bool false])) w:=by
    simp[Instr.next,getObj,Dm,V,Bn]
   rw[U];exact GB.plain g hr (r ⟨_,_,g⟩).1 (r ⟨_,_,g⟩).2
  ·cases t
 · -- over a map
  rename_i m since seen ho;obtain⟨b,rfl,hob,hkb,O⟩:=WM g hx ho;rcases O with⟨s',T,V,t⟩|⟨V,t⟩|⟨om,mb,si,se,V,t,h3⟩
  ·cases t
  ·cases t
  ·simp only[VK,List.cons.injEq,AV.mapr.injEq,AV.int.injEq,AV.tup.injEq,and_true,true_and]at t;obtain⟨rfl,rfl,rfl⟩:=t;split at hr
   ·rename_i es he;obtain⟨hs,hend,C⟩:=hr;rw[oF]at hend C;rcases UJ g h3 he with⟨h,_⟩|⟨o,b2,ms,cl,ho2,hb2,hob2,hkb2,hms,hl,hH,hrel⟩
    ·cases h
    cases ho2;cases hb2;obtain⟨hcl,I⟩:=Mp g hH hob2 hkb2 hms;have hsi:si=es.length:=Fj;have hin:∀e∈(leftOf ms se.toArray).toList,∃i:Nat,ms[i]? =some e/\e.born=i/\i∉se:=λe he'=>by
     unfold leftOf at he';rw[EK,Ca]at he';obtain⟨i,O⟩:=Ab he'.1;rw[Af]at O;refine⟨i,O,I i e O,λhse=>?_⟩;have:=he'.2;rw[I i e O]at this;simp[hse]at this
    rcases run_next_at (P:=P) w ty b mb si si se.toArray ms cl V hms (λx hx'=>by
      obtain⟨i,O⟩:=Ab hx';rw[Af]at O;rw[I i x O];have:=(Au.1 O).1;omega) (AS _)with⟨g1,g2⟩|⟨e,g1,w1,g2,g3⟩
    ·rw[AK,g2];refine GB.plain g (hend λi O=>?_) (r ⟨_,_,g⟩).1 (r ⟨_,_,g⟩).2;cases hd:decide (i∈se)with
     |true=>exact AN.2 ⟨i,of_decide_eq_true hd,rfl⟩
     | false =>
      exfalso;have hlt:i<ms.size:=Fj;have hm:ms[i]∈(leftOf ms se.toArray).toList:=by
       unfold leftOf;rw[EK,Ca];refine⟨F3, ?_⟩;rw[I i ms[i] (Al hlt)];simpa using hd
      have:(leftOf ms se.toArray).toList.length=0:=by simpa using g1
      rw[List.length_eq_zero_iff.1 this]at hm;cases hm
    ·obtain⟨i,O,hbi,hns⟩:=hin e g1;have hlt:=(Au.1 O).1;obtain⟨p,hp⟩:∃p,es[i]? =some p:=⟨_,AL Fj⟩;obtain⟨r1,r2,r3,r4⟩:=hrel i p e hp O;have C:=C i p hp (λhm=>by
      obtain⟨j,hj,hj2⟩:=AN.1 hm;have:j=i:=Fj;subst this;exact hns hj)
     rw[AK,g3];have fin:∀w1:World,Ee F G [.it o'] H [.pointer (some ⟨b,0,none⟩)] w1->Ext F G w G w1->w1.heap=w.heap ->
       GB F G w R (.tuple #[.bool true,e.key,e.val]) (ChangeMaps.setBlock w1 b (.mapIter (some mb) si (se.toArray.push e.born) cl)):=by
      intro w1 hc1 J hh1;have hor:=hc1.h.obj o' _ b ho hob;have hb1:w1.heap[b]? =some (.mapIter (some mb) si se.toArray si):=by rw[hh1];exact V
      have he2:Ext F G w1 G (w1.putObj b (.mapIter (some mb) si (se.toArray.push e.born) cl)):=LS hor.own hb1 (λ_ _ _ e=>by cases e);obtain⟨k1,k2⟩:=WA (G:=G) (w:=w1) (F:=F) (H:=H) (vs:=[.bool true,p.1.borrow,p.2.borrow]) (us:=#[.bool true,e.key,e.val]) ⟨_,_,hc1⟩ rfl λj c x m1 m2=>by
       match j with
       | 0=>simp at m1 m2;subst m1;subst m2;exact⟨rfl,rfl,.bool true⟩
       | 1=>simp at m1 m2;subst m1;subst m2;exact⟨(Jh r1).2,(Jh r1).1,(r3.keep J.keeps).borrow⟩
       | 2=>simp at m1 m2;subst m1;subst m2;exact⟨(Jh r2).2,(Jh r2).1,(r4.keep J.keeps).borrow⟩
       |j+3=>simp at m1
      obtain⟨h5,h6⟩:=hc1.setSp (X:=.mapIter (some mb) si (se.toArray.push e.born) cl) ho hob (by rw[hkb];rfl) (λ_ _ _ e=>by cases e) (cs':=[.mapr m,.int .i64 (si:Int),.tup ((se.map λ(i:Nat)=>AV.int .i64 (i:Int))++[.int .i64 (i:Int)])]) ⟨hor.own,by
       rw[hkb];refine .inr (.inr ⟨m,mb,si,se++[i], ?_,by simp[VK],((h3.keep J.keeps).keep he2.keeps)⟩);have e1:cl=si:=Fj;have e2:se.toArray.push e.born=(se++[i]).toArray:=by rw[hbi];simp
       rw[World.putObj_heap_same hor.lt,e1,e2]⟩ (.cons k1 (GC k2 F G w1) (.nil F G w1)) (λx=>by rw[Fx,Gy,k2];simp)
      exact⟨_,_,G,C,h5,J.trans h6⟩
     rcases g2 with rfl|rfl
     ·exact fin _ g (Ext.refl F G _) rfl
     ·exact fin _ g.draw Ik rfl
   ·exact hr.elim
 ·exact hr.elim
def ADa{o':Nat}{u:Value}(O:Ee F G [.it o'] H [u] w)(T:Up H o' R):
  GR P ((do let v<-Instr.entry u;pure (Next.value v):Sem Next).run P w) (GB F G w R):=by
 have hx:=O.l.rel 0 _ _ rfl rfl;unfold Up at T;split at T
 ·rename_i m since seen ho;obtain⟨b,rfl,hob,hkb,hi⟩:=WM O hx ho;rcases hi with⟨s',p',h1,U⟩|⟨h1,U⟩|⟨om,mb,si,V,h1,U,h3⟩
  ·cases U
  ·cases U
  ·simp only[VK,List.cons.injEq,AV.mapr.injEq,AV.int.injEq,AV.tup.injEq,and_true,true_and]at U;obtain⟨rfl,rfl,rfl⟩:=U;split at T
   ·rename_i es i he g;obtain⟨hs,p,hp,hR⟩:=T;rcases UJ O h3 he with⟨h,_⟩|⟨o,b2,C,cl,ho2,hb2,hob2,hkb2,hms,hl,hH,hrel⟩
    ·cases h
    cases ho2;cases hb2;obtain⟨hcl,r⟩:=Mp O hH hob2 hkb2 hms;have I:∃j:Nat,V.getLast? =some j/\i=(j:Int):=by
     rw[List.getLast?_map]at g;cases J:V.getLast? with
     |none=>rw[J]at g;cases g
     |some j=>rw[J]at g;simp at g;exact⟨j,rfl,g.symm⟩
    obtain⟨j,J,rfl⟩:=I;rw[AZ]at hp;have hlt:=(AD.1 hp).1;have hmj:C[j]? =some (C[j]' Fj):=Al _;obtain⟨t,rfl⟩:∃t,V=t++[j]:=⟨V.dropLast,by
     cases hse:V with
     |nil=>rw[hse]at J;cases J
     |cons x xs =>
      rw[hse]at J;rw[List.getLast?_eq_some_getLast F3]at J;cases J;exact(List.dropLast_concat_getLast F3).symm⟩
    have e2:((t++[j]).toArray:Array Nat)=t.toArray.push (C[j]' Fj).born:=by rw[r j _ hmj];simp
    have e1:cl=si:=Fj;have hrun:=run_entry_at (P:=P) w b mb si t.toArray C cl (C[j]' Fj) (by rw[<- e2,e1];exact h1) hms F3 (by
     have:C.toList.map (·.born)=An C.size:=by
      refine A6 λk=>?_;rw[Ac,Af];by_cases hk:k<C.size
      ·rw[Al hk,CZ hk];simp[r k _ (Al hk)]
      ·rw[Array.getElem?_eq_none Fj,A0 IG];rfl
     rw[this];exact List.nodup_range)
    rw[AK,hrun];obtain⟨r1,r2,r3,r4⟩:=hrel j p _ hp hmj;obtain⟨k1,k2⟩:=WA (G:=G) (w:=w) (F:=F) (H:=H) (vs:=[p.1.borrow,p.2.borrow]) (us:=#[(C[j]' Fj).key,(C[j]' Fj).val]) ⟨_,_,O⟩ rfl λk c x m1 m2=>by
     match k with
     | 0=>simp at m1 m2;subst m1;subst m2;exact⟨(Jh r1).2,(Jh r1).1,r3.borrow⟩
     | 1=>simp at m1 m2;subst m1;subst m2;exact⟨(Jh r2).2,(Jh r2).1,r4.borrow⟩
     |k+2=>simp at m1
    exact GB.plain O hR k1 k2
   ·exact T.elim
 ·exact T.elim
end
end Go.AI
namespace Go.AI
section
variable{P:Program}{F:Nat->Prop}{G:Gh}{w:World}{H:Fl}{R:AV->Fl->Prop}
def jN{t e ty p i g C c:Nat}{u:Value}{j:Array TypeId}(o:Ee F G [.mslc p i g C c] H [u] w)(I:j[0]? =some t)(J:P.underlying t=some (.slice e))(O:R (.int .i64 g) H):
  GR P ((do let r<-Builtin.len_ j ty #[u];pure (Next.value r):Sem Next).run P w) (GB F G w R):=by
 have T:=o.l.rel 0 _ _ rfl rfl;cases T;exact .value (by simp[Builtin.len_,I,run_underlying J,goInt]) (GB.plain o O (.int _ _) (Fu rfl rfl _))
def jO{t e ty p g i C c:Nat}{u:Value}{j:Array TypeId}(o:Ee F G [.mslc p g i C c] H [u] w)(I:j[0]? =some t)(J:P.underlying t=some (.slice e))(O:R (.int .i64 c) H):
  GR P ((do let r<-Builtin.cap_ j ty #[u];pure (Next.value r):Sem Next).run P w) (GB F G w R):=by
 have T:=o.l.rel 0 _ _ rfl rfl;cases T;exact .value (by simp[Builtin.cap_,I,run_underlying J,goInt]) (GB.plain o O (.int _ _) (Fu rfl rfl _))
def ZG {t e ob g len J c:Nat} {u:Value} {T:List AV} {O:List Value} {lo hi mx:Option Value} {l h:Option Int} (hc:Ee F G (.mslc ob g len J c::T) H (u::O) w) (hu:P.underlying t=some (.slice e))
  (hl:Ef lo l) (hh:Ef hi h) (hm:Ef mx none)
  (h0:0<=l.getD 0) (h1:l.getD 0<=h.getD len) (h2:h.getD len<=c) (hs:J=P.cellsOf e) (hz:∃i,P.info? e=some i)
  (hr:R (if l.getD 0=c/\0<l.getD 0 then .sl none []else .mslc ob (g+(l.getD 0).toNat*J) ((h.getD len).toNat - (l.getD 0).toNat) J (c - (l.getD 0).toNat)) H) :
  GR P ((do let r<-Instr.sliceAt t u lo hi mx;pure (Next.value r):Sem Next).run P w) (GB F G w R):=by
 have U:=hc.l.rel 0 _ _ rfl rfl;obtain⟨i,hi'⟩:=hz;have j:∀w,(sizeOf e).run P w = .ok (P.cellsOf e) w:=λw=>by simp[sizeOf,typeInfo,hi',BU]
 cases U with
 | mslc _ _ _ _ _ b hob hlc hmx o =>
  obtain⟨C,E,o,hfit⟩:=o;have hb:=Hs (P:=P) (isSlice:=true) (len:=len) (cap:=c) hl hh hm (λh=>by cases h) h0 h1 (by simp only[BR];omega) F3 w;by_cases V:l.getD 0=c/\0<l.getD 0
  ·rw[iP V]at hr;have I:c=(l.getD 0).toNat:=Fj;have p:(Instr.sliceAt t (.slice (some ⟨b,g,none⟩) len c) lo hi mx).run P w = .ok (.slice (some ⟨b,g,none⟩) 0 0) w:=by
    simp only[Instr.sliceAt,Instr.slice,AK,run_underlying hu,Ad,hb,j,BR,AZ];have e1:(h.getD len).toNat - (l.getD 0).toNat=0:=Fj;have e2:c - (l.getD 0).toNat=0:=Fj;rw[iP I,e1,e2];simp
   exact .value (by rw[AK,p];rfl) (GB.plain hc hr (.slany none _) (by simp[HY,L3,AV.flat,AV.cells,Io,Value.cells,tok]))
  rw[iN V]at hr;have h3:l.getD 0=0\/l.getD 0<c:=Fj;have p:(Instr.sliceAt t (.slice (some ⟨b,g,none⟩) len c) lo hi mx).run P w = .ok (.slice (some ⟨b,g+(l.getD 0).toNat*J,none⟩) ((h.getD len).toNat - (l.getD 0).toNat) (c - (l.getD 0).toNat)) w:=by
   simp only[Instr.sliceAt,Instr.slice,AK,run_underlying hu,Ad,hb,j,BR,AZ];subst hs;by_cases I:c=(l.getD 0).toNat
   ·have e0:(l.getD 0).toNat=0:=Fj;rw[iP I,e0];simp
   ·rw[iN I];simp[Hk]
  have hmul:c*J=(l.getD 0).toNat*J+(c - (l.getD 0).toNat)*J:=by
   rw[<- A1];congr 1;omega
  exact .value (by rw[AK,p];rfl) (GB.plain hc hr (.mslc _ _ _ _ _ b hob Fj Fj  ⟨C,E,o,Fj⟩) (Fu rfl rfl _))
def lO{e:TypeId}{r:List AV}{us:List Value}{ob g k b len cap:Nat}{t:List AV}(hc:Ee F G r H us w)(ho:H[ob]? =some (some t))(hb:G.obs[ob]? =some b)(U:∃(C:Array Value) (E:TypeId),w.heap[b]? =some (.cells C E (0,0)))
  (hle:g+k*P.cellsOf e<=t.length):∃o:List Value,(Builtin.firstCells (P.cellsOf e) k (.slice (some ⟨b,g,none⟩) len cap)).run P w = .ok o.toArray w/\o.length=k*P.cellsOf e/\(∀v∈o,v.oneCell'=true) /\
   ∀(i:Nat) (c:AV),((t.drop g).take (k*P.cellsOf e))[i]? =some c->c.scalar=true /\ ∃v,o[i]? =some v/\Eg G w c v:=by
 obtain⟨C,E,I,hCs,hC⟩:=hc.h.at_obj ho hb U;refine⟨(C.toList.drop g).take (k*P.cellsOf e),run_firstCells_some (P:=P) w (P.cellsOf e) k _ _ _ _ IG (λj v p=>?_),IG,λv p=>?_,λi c J=>?_⟩
 ·rw[Ak]at p;split at p
  ·rw[A4,Af]at p;rw[Hk,cell_of_row _ _ _ C E _ I];exact p
  ·cases p
 ·obtain⟨j,O⟩:=Ab p;rw[Ak]at O;split at O
  ·rename_i R;rw[A4]at O;have hd:t[g+j]? =some (t[g+j]' Fj):=AL _;obtain⟨V,g2,_⟩:=hC.at_ (g+j) _ v hd (by rw[Ak,iP Fj];exact O);exact Oe V g2
  ·cases O
 ·rw[Ak]at J;split at J
  ·rename_i R;rw[A4]at J;have T:g+i<C.size:=Fj;have p:C[g+i]? =some (C[g+i]):=Al T;obtain⟨V,g2,_⟩:=hC.at_ (g+i) c (C[g+i]) J (by rw[Ak,iP Fj,Af];exact p);exact⟨V,_,by rw[Ak,iP R,A4,Af];exact p,g2⟩
  ·cases J
def AIa{e:TypeId}{a b:AV}{u v:Value}{X:List AV}{k n:Nat}(V:Ee F G [a,b] H [u,v] w)(r:lP P e H k b=some X)(hn:ACY b=some n):
  (Builtin.lenOf v).run P w = .ok n w /\ ∃o:List Value,(Builtin.firstCells (P.cellsOf e) k v).run P w = .ok o.toArray w/\o.length=k*P.cellsOf e/\X.length=k*P.cellsOf e/\(∀v∈o,v.oneCell'=true) /\
   ∀(i:Nat) (c:AV),X[i]? =some c->c.scalar=true /\ ∃v,o[i]? =some v/\Eg G w c v:=by
 have hx:=V.l.rel 1 _ _ rfl rfl;unfold lP at r;split at r
 ·rename_i own xs;split at r
  ·rename_i g;cases r;cases hn;have hcl:=Hg g.1;have T:k*P.cellsOf e<=xs.length*P.cellsOf e:=BH _ g.2;rcases M4 g.1 hx with⟨rfl,rfl⟩|⟨ad,c,o,rfl,hnl,I,U,J⟩
   ·have hk0:k=0:=by simpa using g.2
    subst hk0;refine⟨by simp[Builtin.lenOf],[],by simp[Builtin.firstCells],F3,F3,λv t=>by simp at t,λi c R=>by simp at R⟩
   ·refine⟨by simp[Builtin.lenOf],o.take (k*P.cellsOf e),run_firstCells_some (P:=P) w (P.cellsOf e) k _ _ _ _ IG (λj v t=>?_),IG,IG,λv t=>U v (List.mem_of_mem_take t),λi c R=>?_⟩
    ·rw[Ak]at t;split at t
     ·exact I j v t
     ·cases t
    ·rw[Ak]at R;split at R
     ·rename_i hlt;obtain⟨s1,v,s2,s3⟩:=J i c R;exact⟨s1,v,by rw[Ak,iP hlt];exact s2,s3⟩
     ·cases R
  ·cases r
 ·rename_i ob off len sz;split at r
  ·rename_i cs ho;split at r
   ·rename_i g;cases r;cases hn;obtain⟨O,rfl,T⟩:=g;cases hx with
    |msl _ _ _ _ b cap hb hl hm p =>
     obtain⟨C,E,p,_⟩:=p;obtain⟨o,h1,h2,h3,h4⟩:=lO (P:=P) (e:=e) (len:=n) (cap:=cap) V ho hb ⟨C,E,p⟩ O;exact⟨by simp[Builtin.lenOf],o,h1,h2,IG,h3,h4⟩
   ·cases r
  ·cases r
 ·rename_i ob off len sz c;split at r
  ·rename_i cs ho;split at r
   ·rename_i g;cases r;cases hn;obtain⟨O,rfl,T⟩:=g;cases hx with
    |mslc _ _ _ _ _ b hb hl hm p =>
     obtain⟨C,E,p,_⟩:=p;obtain⟨o,h1,h2,h3,h4⟩:=lO (P:=P) (e:=e) (len:=n) (cap:=c) V ho hb ⟨C,E,p⟩ O;exact⟨by simp[Builtin.lenOf],o,h1,h2,IG,h3,h4⟩
   ·cases r
  ·cases r
 ·cases r
def tO {t t2 e ty ob g o sz n:Nat} {dst sv:AV} {X O:List AV} {u v:Value} {b V:Nat} (hc:Ee F G [dst,sv] H [u,v] w) (hu:P.underlying t=some (.slice e)) (hsz:sz=P.cellsOf e) (hz:(P.info? e).isSome=true)
  (hub:u = .slice (some ⟨b,g,none⟩) o V) (hob:G.obs[ob]? =some b) (p:∃(C:Array Value) (E:TypeId),w.heap[b]? =some (.cells C E (0,0))/\g+V*sz<=C.size) (hlc:o<=V)
  (ho:H[ob]? =some (some O)) (hcb:O.map borrow1=O) (hoff:g<=O.length) (hn:ACY sv=some n) (hs:lP P e H (Nat.min n o) sv=some X)
  (hr:R (.int .i64 (Nat.min n o:Nat)) (H.set ob (some (O.take g++X.map borrow1++O.drop (g+Nat.min n o*sz))))) :
  GR P ((do let r<-Builtin.copy_ #[t,t2] ty #[u,v];pure (Next.value r):Sem Next).run P w) (GB F G w R):=by
 subst hsz hub;obtain⟨hlen,I,hf,hnl,hXl,hone,hcell⟩:=AIa hc hs hn;obtain⟨i,hi'⟩:=Bm.1 hz;have hsize:∀w,(sizeOf e).run P w = .ok (P.cellsOf e) w:=λw=>by simp[sizeOf,typeInfo,hi',BU]
 obtain⟨C0,E0,p,hfit0⟩:=p;obtain⟨C,E,T,hCs,hC⟩:=hc.h.at_obj ho hob ⟨C0,E0,p⟩;have hfit:g+Nat.min n o*P.cellsOf e<=C.size:=by
  rw[p]at T;cases T;have h1:Nat.min n o<=V:=AJ (Nat.min_le_right _ _) hlc;have:=BH (P.cellsOf e) h1;omega
 generalize hk:Nat.min n o=k at *;have hst:=run_storeCells_at P b g E I 0 C w T Fj hone;simp only[BG]at hst;let C':Array Value:=(C.toList.take g++I++C.toList.drop (g+I.length)).toArray
 have hC':C'=(C.toList.take g++I++C.toList.drop (g+I.length)).toArray:=rfl;have U:C'.size=C.size:=by rw[hC'];simp;omega
 have hrun:(Builtin.copy_ #[t,t2] ty #[.slice (some ⟨b,g,none⟩) o V,v]).run P w = .ok (goInt k) (w.setRow b C'):=by
  simp[Builtin.copy_,run_underlying hu,hlen,hk,hsize,hf,hst,hC']
 have hold:∀(i:Nat) (d:AV) (x:Value),O[i]? =some d->C[i]? =some x->d.scalar=true/\Eg G w d x/\d=borrow1 d:=by
  intro i d x J j;have hi':=(AD.1 J).1;obtain⟨g1,g2,_⟩:=hC.at_ i d x J (by rw[Ak,iP hi',Af];exact j);refine⟨g1,g2, ?_⟩;have:(O.map borrow1)[i]? =some (borrow1 d):=by rw[Ac,J];rfl
  rw[hcb,J]at this;exact Option.some.inj this
 have hcs':O.take g++X.map borrow1++O.drop (g+k*P.cellsOf e)=(O.take g++X++O.drop (g+k*P.cellsOf e)).map borrow1:=by
  rw[Aq,Aq,EL,Dn,hcb]
 have htl:(C.toList.take g).length=g:=IG;have hct:(O.take g).length=g:=IG
 have hset:=hc.setObj ho hob T (C':=C') U (cs':=O.take g++X.map borrow1++O.drop (g+k*P.cellsOf e)) (by rw [U];simp;omega)
  (λi d x J j=>by
   rw[hC',Bl]at j;by_cases hlt:i<g
   ·rw[AF,Aa Fj,Ak,iP hlt]at J;rw[AF,Aa Fj,Ak,iP hlt,Af]at j;obtain⟨g1,g2,g3⟩:=hold i d x J j;exact⟨g1,g2,Gb (by rw[g3];exact HF d _)⟩
   ·rw[AF,AO Fj,hct]at J;rw[AF,AO Fj,htl]at j;by_cases hlt2:i - g<k*P.cellsOf e
    ·rw[Aa (by simpa [hXl]using hlt2),Ac]at J;rw[Aa Fj]at j;cases hci:X[i - g]? with
     |none=>rw[hci]at J;cases J
     |some c =>
      rw[hci]at J;cases J;obtain⟨s1,v,s2,s3⟩:=hcell _ c hci;rw[s2]at j;cases j;exact⟨(Gz c).trans s1,s3.borrow1,Gb (HF c _)⟩
    ·rw[AO (by simpa [hXl]using hlt2),A4,Ap,hXl]at J;rw[AO Fj,A4,hnl,Af]at j;have e1:g+k*P.cellsOf e+(i - g - k*P.cellsOf e)=i:=Fj;rw[e1]at J j;obtain⟨g1,g2,g3⟩:=hold i d x J j;exact⟨g1,g2,Gb (by rw[g3];exact HF d _)⟩) (vs:=[.int .i64 (k:Int)]) (us':=[goInt k]) (.cons (.int _ _) (GC (Fu rfl rfl _) F G w) (.nil F G w)) (λx=>by
  rw[hcs',Jm,Fx,Gy,Fu rfl rfl];simp)
 exact .value (by rw[AK,hrun];rfl) ⟨_,_,G,hr,hset.1,hset.2⟩
def Vi {t t2 e ty ob I g sz c m:Nat} {kq kn:IntKind} {cs:List AV} {z:AV} {u v:Value} (hc:Ee F G [.mslc ob I g sz c,.int kq (m:Int)] H [u,v] w) (ho:H[ob]? =some (some cs)) (hu:P.underlying t=some (.slice e)) (hu2:P.underlying t2=some (.int kn))
  (hpos:0<P.cellsOf e) (hsz:sz=P.cellsOf e) (hle:I+g*sz<=cs.length) (hzv:F8 P e=some z) (hzl:z.cells.length=P.cellsOf e) (hz:HD P e=true) (hm0:0<m) (hroom:c<g+m) (hb:(g+m)*P.bytesOf e<=140737488355328) (h63:g+m<=9223372036854775807)
  (hr:R (.msl H.length 0 (g+m) (P.cellsOf e)) (H++[some (((cs.drop I).take (g*sz)).map borrow1++(HC z m).map borrow1)])) :
  GR P ((do let r<-Builtin.append_ #[t,t2] ty #[u,v];pure (Next.value r):Sem Next).run P w) (GB F G w R):=by
 subst hsz;have hs:=hc.l.rel 0 _ _ rfl rfl;have hv:=hc.l.rel 1 _ _ rfl rfl;cases hv;unfold HD at hz;split at hz
 case h_2=>cases hz
 rename_i i hi;split at hz
 case h_2=>cases hz
 rename_i J hz';have hcz:J.cells.size=i.size:=by simpa using hz
 have hce:P.cellsOf e=i.size:=by simp[BU,hi]
 have hbe:P.bytesOf e=i.bytes:=by simp[Co,hi]
 rw[hbe]at hb;have hlen:=hc.h.len;obtain⟨zv2,hrunz,hval,hczz,htz⟩:=Nc hzv;have hzz:J=zv2:=by
  have:=hrunz w;simpa [zeroValue,typeInfo,hi,hz']using this
 subst hzz;have hz0:=hczz F G w;cases hs with
 | mslc _ _ _ _ _ b hob hl hm T =>
  obtain⟨C0,E0,T,hfit0⟩:=T;obtain⟨C,E,hrow,hCs,hC⟩:=hc.h.at_obj ho hob ⟨C0,E0,T⟩;let o:List Value:=(C.toList.drop I).take (g*P.cellsOf e)
  have U:o=(C.toList.drop I).take (g*P.cellsOf e):=rfl;have V:o.length=g*P.cellsOf e:=by rw[U];simp;omega
  have hof:=run_firstCells_some (P:=P) w.drew i.size g ⟨b,I,none⟩ g c o (by rw[V,hce]) (λj v hv=>by
   show w.drew.cell? _=_;rw[Hk];have:w.cell? ⟨b,I+j,none⟩=some v:=by
    rw[cell_of_row _ _ _ C E _ hrow];rw[U,Ak]at hv;split at hv
    ·rwa [A4,Af]at hv
    ·cases hv
   simpa using this)
  have hrun:=Go.Lib.run_append_grow_zeros (P:=P) w t t2 ty e i J kq kn hu hu2 hi hz' (some ⟨b,I,none⟩) g c o hof m hm0 Fj hroom Fj (AJ (BH i.bytes (Nat.le_add_left m g)) Fj) (growslice_fits Fj hb);have O:=hc.draw;have hge:=grownCap_ge w (g+m) c e;have hcm:grownCap w (g+m) c e<=maxLen:=grownCap_le_maxLen w _ c e (by unfold maxLen;omega);have hzs:∀k,(Builtin.zeroCells J.cells k).size=k*P.cellsOf e:=λk=>by rw[size_zeroCells,hcz,hce]
  have hXl:(HC z m).length=m*P.cellsOf e:=by simp[HC,hzl]
  have hsize:(o.toArray++Builtin.zeroCells J.cells m++Builtin.zeroCells J.cells (grownCap w (g+m) c e - (g+m))).size=grownCap w (g+m) c e*P.cellsOf e:=by
   simp only[Cp,Bd,hzs,V,<- A1];congr 1;omega
  have hgl:∀j,j<m*P.cellsOf e->(HC z m)[j]? =z.cells[j % P.cellsOf e]?/\(o.toArray++Builtin.zeroCells J.cells m++Builtin.zeroCells J.cells (grownCap w (g+m) c e - (g+m)))[g*P.cellsOf e+j]? =J.cells.toList[j % P.cellsOf e]?:=by
   intro j hj;have hmod:j % P.cellsOf e<P.cellsOf e:=CY _ hpos;constructor
   ·unfold HC;rw[Ac,CZ (by rw[hzl];exact hj),hzl,Bb,AL Fj];rfl
   ·rw[Dl (by simp[hzs,V];omega),Array.getElem?_append_right (by simp[V])];have e0:g*P.cellsOf e+j - o.toArray.size=j:=by simp[V]
    rw[e0];have e1:(Builtin.zeroCells J.cells m)[j]? =some (J.cells[j % J.cells.size]!):=by
     simp[Builtin.zeroCells,hcz,<- hce,hj]
    rw[e1,hcz,<- hce,Af];have:j % P.cellsOf e<J.cells.size:=Fj;rw[Al this,getElem!_pos J.cells _ this]
  have hrel:∀(i:Nat) (d:AV) (x:Value),(((cs.drop I).take (g*P.cellsOf e)).map borrow1++(HC z m).map borrow1)[i]? =some d->(o.toArray++Builtin.zeroCells J.cells m++Builtin.zeroCells J.cells (grownCap w (g+m) c e - (g+m)))[i]? =some x->d.scalar=true/\Eg G w d x/\d=borrow1 d:=by
   intro i d x O hx;have hl1:(((cs.drop I).take (g*P.cellsOf e)).map borrow1).length=g*P.cellsOf e:=IG;by_cases hlt:i<g*P.cellsOf e
   ·rw[Aa Fj,Ac,Ak,iP hlt,A4]at O;rw[Array.append_assoc,Dl (by simpa [V]using hlt),Bl,U,Ak,iP hlt,A4]at hx;cases hci:cs[I+i]? with
    |none=>rw[hci]at O;cases O
    |some c0 =>
     rw[hci]at O;cases O;have hlt3:=(AD.1 hci).1;obtain⟨g1,g2,_⟩:=hC.at_ _ c0 x hci (by rw[Ak,iP hlt3];exact hx);exact⟨(Gz c0).trans g1,g2.borrow1,(by cases c0<;>rfl)⟩
   ·obtain⟨j,rfl⟩:∃j,i=g*P.cellsOf e+j:=⟨i - g*P.cellsOf e,Fj⟩;rw[AO Fj,hl1,Nat.add_sub_cancel_left]at O;rw[Ac]at O;have hj:j<m*P.cellsOf e:=by
     have:=(AD.1 ((Ac ..).trans O)).1;rw[Ap]at this;omega
    obtain⟨g1,g2⟩:=hgl j hj;rw[g1]at O;rw[g2]at hx;cases hz1:z.cells[j % P.cellsOf e]? with
    |none=>rw[hz1]at O;cases O
    |some d0 =>
     rw[hz1]at O;cases O;obtain⟨s1,s2,_⟩:=hz0.at_ _ d0 x hz1 hx;exact⟨(Gz d0).trans s1,s2.borrow1,by cases d0<;>rfl⟩
  refine .value (by rw[AK,hrun];rfl) ⟨_,_,_,hr, ?_,Ik.trans (I_ O.h.fore _)⟩;exact O.newObj (((cs.drop I).take (g*P.cellsOf e)).map borrow1++(HC z m).map borrow1) (o.toArray++Builtin.zeroCells J.cells m++Builtin.zeroCells J.cells (grownCap w (g+m) c e - (g+m))) e
   (by rw[hsize];simp[hXl];rw[Nat.min_eq_left Fj,<- A1];exact BH _ hge)
   (λi d x h1 h2=>by
    obtain⟨g1,g2,g3⟩:=hrel i d x h1 h2;exact⟨g1,g2.keep (Ik (F:=F)).keeps,Gb (by rw[g3];exact HF d _)⟩)
   (λx=>by
    have:((((cs.drop I).take (g*P.cellsOf e)).map borrow1++(HC z m).map borrow1).zip (o.toArray++Builtin.zeroCells J.cells m++Builtin.zeroCells J.cells (grownCap w (g+m) c e - (g+m))).toList).filterMap tok=[]:=by
     rw[B5];intro p hp;obtain⟨i,hi⟩:=Ab hp;rw[Bj]at hi;obtain⟨g1,g2,g3⟩:=hrel i p.1 p.2 hi.1 (by rw[<- Af];exact hi.2);obtain⟨p1,p2⟩:=p;simp only at g3;rw[g3];exact HF p1 p2
    rw[this];simp)
   (v:=.msl H.length 0 (g+m) (P.cellsOf e)) (u:=.slice (some ⟨w.heap.size,0,none⟩) (g+m) (grownCap w (g+m) c e))
   (.msl _ _ _ _ w.heap.size _ (by
    show(G.obs++[w.drew.heap.size])[H.length]? =_;rw[AO Fj,hlen];simp) hge hcm ⟨_,e,heap_alloc_new _ _,by rw[hsize];omega⟩) (Fu rfl rfl _)
def jL {U tR e ob r O p R o sz t c2:Nat} {u v:Value} (hc:Ee F G [.msl ob O R sz,.mslc r p o t c2] H [u,v] w) (hne:ob≠r) (hu:P.underlying U=some (.slice e)) (hz:(P.info? e).isSome=true) (hl : ∃ V,H[ob]? =some (some V)) (I : ∃ V,H[r]? =some (some V)) (hp:0<o*t)
  : (Extern.SlicesOverlaps.overlaps #[U,U] #[tR] #[u,v]).run P w = .ok (.bool false) w:=by
 have hx:=hc.l.rel 0 _ _ rfl rfl;have hy:=hc.l.rel 1 _ _ rfl rfl;obtain⟨i,hi'⟩:=Bm.1 hz;have J:∀w,(sizeOf e).run P w = .ok (P.cellsOf e) w:=λw=>by simp[sizeOf,typeInfo,hi',BU]
 obtain⟨V,hl⟩:=hl;obtain⟨cs2,I⟩:=I;cases hx with
 | msl _ _ _ _ b cap hb hlc hm g =>
  cases hy with
  | mslc _ _ _ _ _ b2 hb2 T hm2 j =>
   obtain⟨C,E,g,hfit⟩:=g;obtain⟨C2,E2,j,hfit2⟩:=j;have hbb:b≠b2:=by
    rintro rfl;exact hne (hc.h.inj _ _ _ _ _ hl I hb hb2)
   have hcs:0<C2.size:=by
    have:=BH t T;omega
   refine Go.Lib.run_overlaps_apart w U tR e hu _ J ⟨b,O,none⟩ ⟨b2,p,none⟩ R cap o c2 hbb E E2 C.size C2.size ?_ ?_ Fj ?_ ?_
   ·simp[World.shape?,g]
   ·simp[World.shape?,j]
   ·simp[World.frozen?,g]
   ·simp[World.frozen?,g]
def ADe{t t2 ty:Nat}{a b:AV}{u v:Value}(o:Ee F G [a,b] H [u,v] w)(g:VQ P t a b H R):
  GR P ((do let r<-Builtin.copy_ #[t,t2] ty #[u,v];pure (Next.value r):Sem Next).run P w) (GB F G w R):=by
 unfold VQ at g;split at g
 ·rename_i e ob off len sz gr n I i J;split at g
  ·rename_i cs O;obtain⟨⟨T,U,V,h4,h5⟩,g⟩:=g;split at g
   ·rename_i X hs;have hx:=o.l.rel 0 _ _ rfl rfl;cases a<;>simp only[qh]at i<;>cases i
    ·cases hx with
     |msl _ _ _ _ b cap p C hm j=>exact tO o I T U rfl p j C O V h4 J hs g
    ·cases hx with
     |mslc _ _ _ _ _ b p C hm j=>exact tO o I T U rfl p j C O V h4 J hs g
   ·exact g.elim
  ·exact g.elim
 ·exact g.elim
def ALY{t t2 ty:Nat}{mt:Bool}{a b:AV}{u v:Value}(C:Ee F G [a,b] H [u,v] w)(g:apz P t t2 mt a b H R):
  GR P ((do let r<-Builtin.append_ #[t,t2] ty #[u,v];pure (Next.value r):Sem Next).run P w) (GB F G w R):=by
 unfold apz at g;split at g
 ·rename_i e kn ob I J sz c k m O o;split at g
  ·rename_i cs T;obtain⟨z,U,⟨V,h4,h5,h6,h7,h8,h9,p,i⟩,g⟩:=g;obtain⟨m,rfl⟩:∃j:Nat,m=(j:Int):=⟨m.toNat,Fj⟩;rw[AZ]at p i g;exact Vi C T O o h5 h6 h7 U V h4 Fj Fj  p i g
  ·exact g.elim
 ·exact g.elim
end
end Go.AI
namespace Go.AI
section
variable{P:Program}{F:Nat->Prop}{G:Gh}{w:World}{H:Fl}{R:AV->Fl->Prop}
def IJ{first:List AV}{fi:List Value}(o:first.length=fi.length)(h:∀(i:Nat) (c:AV) (v:Value),first[i]? =some c->fi[i]? =some v->Eg G w c v):LRel F G (first.map AV.borrow) fi w /\ ∀b,Hm b (first.map AV.borrow) fi=0:=by
 refine⟨⟨by simpa using o,λi a u g p=>?_,λi a u g p=>?_⟩,λb=>?_⟩
 ·rw[Ac]at g;cases j:first[i]? with
  |none=>rw[j]at g;cases g
  |some c=>rw[j]at g;cases g;exact(h i c u j p).borrow
 ·rw[Ac]at g;cases j:first[i]? with
  |none=>rw[j]at g;cases g
  |some c=>rw[j]at g;cases g;exact GC (HE c u) F G w
 ·clear h;induction first generalizing fi with
  |nil=>simp[Hm]
  |cons c t r =>
   match fi,o with
   |u::C,o=>rw[AW,Fx,HE,r (by simpa using o)];simp
def WI {f:FuncId} {first j args:List AV} {fv:Value} {uargs:Array Value} (C:Ee F G (.fn (.func f) first j::args) H (fv::uargs.toList) w)
  (o:Fw P f (first.map AV.borrow++args++j.map AV.borrow) H R) :
  GR P ((do let d<-Deferred.ofValue fv uargs;invoke d.target d.args:Sem Next).run P w) (GB F G w R):=by
 have hx:=C.l.rel 0 _ _ rfl rfl;obtain⟨_,_,p⟩:=C.l.uncons;cases hx with
 | fn _ _ _ r t h1 h2 h3 h4 =>
  obtain⟨g,o⟩:=o;obtain⟨I,t1⟩:=IJ (F:=F) (G:=G) (w:=w) (first:=first) (fi:=r.toList) (by simpa using h1) (λi c v a b=>h3 i c v a (by simpa using b));obtain⟨l2,t2⟩:=IJ (F:=F) (G:=G) (w:=w) (first:=j) (fi:=t.toList) (by simpa using h2) (λi c v a b=>h4 i c v a (by simpa using b));have J:Ee F G (first.map AV.borrow++args++j.map AV.borrow) H (r.toList++uargs.toList++t.toList) w:=by
   refine⟨(I.append p).append l2,C.h,λb=>?_⟩;rw[G7 _ _ _ _ _ (I.append p).len,G7 _ _ _ _ _ I.len,t1,t2];have:=C.cnt b;rw[Fx]at this;omega
  have V:=o F G w _ J;have e:(do let d<-Deferred.ofValue (.func (.func f) r t) uargs;invoke d.target d.args:Sem Next).run P w = .ok (.enter f (r++uargs++t)) w:=by
   unfold IB at g;split at g
   ·rename_i fn O;simp only[Bool.and_eq_true,Bf,beq_eq_false_iff_ne,ne_eq]at g;obtain⟨T,g2⟩:=g;have g3:fn.body.isNone=false:=by cases hb:fn.body<;>simp_all
    simp only[Deferred.ofValue,AK,Ae,Ad,invoke,callFunc,run_program,O,Bc,beq_eq_false_iff_ne.2 T,g3,B0,if_false]
   ·cases g
  rw[e];have e2:(r.toList++uargs.toList++t.toList).toArray=r++uargs++t:=by
   apply Bq;simp
  rw[e2]at V;refine V.mono λen w'' U=>?_;obtain⟨u,rfl,v,H',G',hr,T,g2⟩:=U;exact⟨u,rfl,v,H',G',hr,T,g2⟩
def ADW {f:FuncId} {first g args:List AV} {fv:Value} {uargs:Array Value} {v:AV} (t:Ee F G (.fn (.func f) first g::args) H (fv::uargs.toList) w)
  (o:Rc P f (first.map AV.borrow++args++g.map AV.borrow) H v) (hr:R v H) :
  GR P ((do let d<-Deferred.ofValue fv uargs;invoke d.target d.args:Sem Next).run P w) (GB F G w R):=by
 have hx:=t.l.rel 0 _ _ rfl rfl;obtain⟨_,_,p⟩:=t.l.uncons;cases hx with
 | fn _ _ _ C I h1 h2 h3 h4 =>
  unfold Rc at o;split at o
  ·rename_i ob U V sz ob2 J O sz2 c2 heq;obtain⟨hne,⟨fn,tS,tR,e,g1,g2,g3,g4,g5,g6,g7⟩,hl,hl2,hp,rfl⟩:=o;have j:Ee F G [.msl ob U V sz,.mslc ob2 J O sz2 c2] H (C.toList++uargs.toList++I.toList) w:=by
    rw[<- heq];obtain⟨l1,t1⟩:=IJ (F:=F) (G:=G) (w:=w) (first:=first) (fi:=C.toList) (by simpa using h1) (λi c v a b=>h3 i c v a (by simpa using b));obtain⟨l2,t2⟩:=IJ (F:=F) (G:=G) (w:=w) (first:=g) (fi:=I.toList) (by simpa using h2) (λi c v a b=>h4 i c v a (by simpa using b));refine⟨(l1.append p).append l2,t.h,λb=>?_⟩;rw[G7 _ _ _ _ _ (l1.append p).len,G7 _ _ _ _ _ l1.len,t1,t2];have:=t.cnt b;rw[Fx]at this;omega
   have T:(C.toList++uargs.toList++I.toList).toArray=C++uargs++I:=by
    apply Bq;simp
   generalize hus:C.toList++uargs.toList++I.toList=us at j T;match us,j,T with
   |[u,v],j,T =>
    have hov:=jL (tR:=tR) j hne g6 g7 hl hl2 hp;have r:=run_callFunc_extern (P:=P) g1 g2 g3 g4 g5 #[u,v] w;rw[hov]at r;refine .value (u:=.bool false) (w':=w) ?_ (GB.plain t hr (.bool _) (Fu rfl rfl _));simp only[Deferred.ofValue,AK,Ae,Ad,invoke,<- T];exact r
   |[],j,_=>have:=j.l.len;simp at this
   |[_],j,_=>have:=j.l.len;simp at this
   |_::_::_::_,j,_=>have:=j.l.len;simp at this
  ·exact o.elim
def CRel.rest{v:AV}{L:List AV}{u:Value}{i:List Value}(g:Ee F G (v::L) H (u::i) w):Ee F G L H i w :=
 ⟨g.l.uncons.2.2,g.h,λb=>by have:=g.cnt b;rw[Fx]at this;omega⟩
def ADV{o:Nat}{L:LoopRec}{args:List AV}{fv:Value}{uargs:Array Value}(j:Ee F G (.yld o L::args) H (fv::uargs.toList) w)(g:OH P o L args H R):
  GR P ((do let d<-Deferred.ofValue fv uargs;invoke d.target d.args:Sem Next).run P w) (GB F G w R):=by
 have C:=j.l.rel 0 _ _ rfl rfl;cases C with
 | yld _ b _ h V I =>
  obtain⟨r,J,O,p⟩:=g F G w _ b j.rest h I;have T:uargs.size=r.params.size:=by simpa using O
  have e:(do let d<-Deferred.ofValue (.func (.yield b) #[] #[]) uargs;invoke d.target d.args:Sem Next).run P w = .ok (.round b r.fn ((r.params.zip uargs).foldl (λi (t,a)=>i.setIfInBounds t a) r.tmps) r.assign r.body) w:=by
   simp only[Deferred.ofValue,AK,Ae,Ad,invoke,Dj];exact run_yield J T
  rw[e];have U:uargs.toList.toArray=uargs:=F3;rw[U]at p;exact p
def AHq{p r t:Option Operand}{ρ:Operand->Value}{rest:List AV}{l h m:Option Int}(C:Q2 p.isSome r.isSome t.isSome rest=some (l,h,m))
  (g:LRel F G rest ((p.toArray++r.toArray++t.toArray).toList.map ρ) w):
  Ef (p.map ρ) l/\Ef (r.map ρ) h/\Ef (t.map ρ) m/\(m.isSome=true->h.isSome=true):=by
 have int:∀{k:IntKind} {i:Int} {u:Value},Eg G w (.int k i) u->u = .int k i:=λh=>by cases h;rfl
 unfold Q2 at C;split at C<;>first|cases C|skip
 all_goals
  rename_i I J O;cases p<;>first|cases I|skip
  all_goals cases r<;>first|cases J|skip
  all_goals cases t<;>first|cases O|skip
  all_goals simp only[Option.toArray,DE,Aq,AW,Ah,AM,EM,Ai]at g
  all_goals simp only[Option.map_none,Bb]
 ·exact⟨.none,.none,.none,F3⟩
 ·have j:=int (g.rel 0 _ _ rfl rfl);rw[j];exact⟨.some _ _,.none,.none,F3⟩
 ·have j:=int (g.rel 0 _ _ rfl rfl);rw[j];exact⟨.none,.some _ _,.none,F3⟩
 ·have j:=int (g.rel 0 _ _ rfl rfl);have o:=int (g.rel 1 _ _ rfl rfl);rw[j,o];exact⟨.some _ _,.some _ _,.none,F3⟩
 ·have j:=int (g.rel 0 _ _ rfl rfl);have o:=int (g.rel 1 _ _ rfl rfl);rw[j,o];exact⟨.none,.some _ _,.some _ _,F3⟩
 ·have j:=int (g.rel 0 _ _ rfl rfl);have o:=int (g.rel 1 _ _ rfl rfl);have P:=int (g.rel 2 _ _ rfl rfl);rw[j,o,P];exact⟨.some _ _,.some _ _,.some _ _,F3⟩
def d6{us:Array Value}(h:us.toList.length=1): ∃u,us=#[u]:=by
 obtain⟨l⟩:=us;match l,h with
 |[u],_=>exact⟨u,rfl⟩
def TQ{us:Array Value}(h:us.toList.length=2): ∃u v,us=#[u,v]:=by
 obtain⟨l⟩:=us;match l,h with
 |[u,v],_=>exact⟨u,v,rfl⟩
def qi{v:AV}{u:Value}(h:Ee F G [v] H [u] w):Ee F G [v.borrow] H [u] w:=by
 obtain⟨g,i,_⟩:=h.l.uncons;refine⟨.cons g.borrow (GC (HE _ _) F G w) (.nil F G w),h.h,λb=>?_⟩;rw[Fx,Gy,HE];have:=h.cnt b;simp only[Bk];omega
def pE{r:Result Next}(h:GR P r (GB F G w λv i=>R v.borrow i)):GR P r (GB F G w R):=by
 have g:∀u j,GB F G w (λv i=>R v.borrow i) u j->GB F G w R u j:=by
  rintro u j ⟨v,i,C,I,J,o⟩;exact⟨v.borrow,i,C,I,qi J,o⟩
 unfold GR at h ⊢;cases r with
 | ok O j =>
  cases O<;>simp only at h ⊢
  ·exact g _ _ h
  ·exact g _ _ h
  ·refine Calls.mono h λe p o=>?_;obtain⟨u,rfl,t⟩:=o;exact⟨u,rfl,g _ _ t⟩
  ·refine RoundIn.mono h λe p o=>?_;obtain⟨u,rfl,t⟩:=o;exact⟨u,rfl,g _ _ t⟩
 |halt x j=>exact h
def AJB(h:Eh)(o:Oper)(ρ:Operand->Value)(hρ : ∀ v,ρ (.const v)=v)(vals:List AV)(j:Ee F G vals H (o.op.operands.toList.map ρ) w)(g:GA P h o vals H R):
  GR P ((execOp ρ o).run P w) (GB F G w R):=by
 unfold GA at g;split at g<;>rename_i heq<;>simp only[heq,Op.operands]at j<;>simp only[execOp,heq]
 ·exact .value rfl (GB.same j g)
 ·exact .value rfl (GB.same j g)
 ·exact AHr j g
 ·exact ALX j g.1 g.2
 ·split at g
  ·exact cX j g.1 g.2
  ·obtain⟨z,hz,g⟩:=g;exact ADd j hz g
 · -- build
  rename_i t ps;rw[show(EN (λx:Nat×Operand=>(x.1,ρ x.2)) ps)=(ps.toList.map λp=>(p.1,ρ p.2)).toArray by apply Bq;simp];rw[show((ps.toList.map (·.2)).toArray.toList.map ρ)=ps.toList.map λp=>ρ p.2 by simp]at j;split at g
  ·rename_i fs I;obtain⟨z,cs,O,J,U,V⟩:=g;exact Vh j I O J U V
  ·rename_i n e I;obtain⟨z,cs,O,J,U,V⟩:=g;exact W9 j I O J U V
  ·exact g.elim
 ·rename_i t len ps;rw[show(EN (λx:Nat×Operand=>(x.1,ρ x.2)) ps)=(ps.toList.map λp=>(p.1,ρ p.2)).toArray by apply Bq;simp];rw[show((ps.toList.map (·.2)).toArray.toList.map ρ)=ps.toList.map λp=>ρ p.2 by simp]at j;split at g
  ·rename_i e I;obtain⟨O,J,U,V,h5,h6⟩:=g;split at h6
   ·exact Sp j I O J U V h5 h6
   ·exact ZJ j I O J U V h5 h6
  ·exact g.elim
 ·split at g
  ·rename_i e I;obtain⟨O,J,U,V,h5,z,h6,h7,h8,h9⟩:=g;exact cR j I O J U V h5 h6 h7 h8 h9
  ·exact g.elim
 · -- load from an object
  split at g
  ·rename_i cs ho;split at g
   ·rename_i v hl;split at g
    ·exact Pp j ho hl (.inr g.2.2)
    ·exact Pp j ho hl (.inl g)
   ·exact g.elim
  ·exact g.elim
 ·split at g
  ·rename_i v hl;exact cT j hl g
  ·exact g.elim
 ·split at g
  ·rename_i cs ho;obtain⟨O,J,U,V,h5⟩:=g;exact ADX j ho O J U V h5
  ·exact g.elim
 ·obtain⟨a,ha,hk⟩:=Ve j g;rw[ha]at hk ⊢;exact .value rfl hk
 ·obtain⟨a,ha,hk⟩:=UC j g;rw[ha]at hk ⊢;exact .value rfl hk
 ·rename_i x f a b;simp only[AW,Ah]at j;have hx:=j.l.rel 0 _ _ rfl rfl;generalize ρ x=fx at hx j ⊢;cases hx;exact .value rfl (GB.same j g)
 ·rename_i x o' L;simp only[AW,Ah]at j;have hx:=j.l.rel 0 _ _ rfl rfl;generalize ρ x=fx at hx j ⊢;cases hx;exact .value rfl (GB.same j g)
 ·split at g
  ·rename_i y _ _ _ hy;refine vp j ?_ g;unfold Le at hy;split at hy
   ·exact hρ _
   ·cases hy
  ·exact ADc j g
 ·split at g
  ·exact jJ j g
  ·exact jI j g
  ·exact g.elim
 ·split at g
  ·exact W8 j ‹_› ‹_› g
  ·exact W7 j ‹_› ‹_› g
  ·exact UE j ‹_› ‹_› g.1 g.2.1 g.2.2
  ·exact g.elim
 ·rename_i fn first captured
  have:=jM (P:=P) (fn:=fn) (first:=first.toList) (captured:=captured.toList) (ρ:=ρ) (R:=R) (by simpa using j) (by simpa using g);rw[show(first.toList.map ρ).toArray=first.map ρ by apply Bq;simp,show(captured.toList.map ρ).toArray=captured.map ρ by apply Bq;simp]at this;exact this
 ·rename_i t x lo hi mx a rest;simp only[DE,Aq,AW,Ah,EM,List.cons_append,AM]at j;split at g
  ·rename_i l hh m hb;obtain⟨hx,htx,hrest⟩:=j.l.uncons;obtain⟨o1,o2,o3,o4⟩:=AHq (ρ:=ρ) hb (by simpa using hrest);split at g
   ·unfold K1 at g;split at g
    ·rename_i n e o off I;obtain⟨⟨rfl,rfl,rfl⟩,g1,g2,g⟩:=g;have nn:∀{x:Option Value},Ef x none->x=none:=λ{x} h=>by
      cases x with
      |none=>rfl
      |some z=>cases h
     split at g
     ·rename_i cs ho;rw[nn o1,nn o2,nn o3];exact cO j I g2 ho g.1 g1 g.2
     ·exact g.elim
    ·rename_i e own es I;obtain⟨⟨rfl,rfl,rfl⟩,g1,g⟩:=g;have nn:∀{x:Option Value},Ef x none->x=none:=λ{x} h=>by
      cases x with
      |none=>rfl
      |some z=>cases h
     rw[nn o1];exact ZI j I o2 o3 g1 g
    ·exact g.elim
   unfold O2 at g;split at g
   ·rename_i s I;obtain⟨O,J,U,V,h5⟩:=g;subst O;have:mx.map ρ=none:=by cases o3':mx.map ρ with
     |none=>rfl
     |some z=>rw[o3']at o3;cases o3
    exact cN j I o1 o2 this J U V h5
   ·rename_i e own es I;obtain⟨O,J,U,V,hz,h5⟩:=g;refine jK j I o1 o2 o3 o4 O J U V ?_ ?_
    ·cases m with
     |none=>exact h5
     |some mm=>exact h5
    ·cases hi:P.info? e with
     |none=>rw[hi]at hz;cases hz
     |some i=>exact⟨i,rfl⟩
   ·rename_i e ob off len sz I;obtain⟨⟨O,J,U,V,hz,rfl,h5⟩,g⟩:=g;refine cP j I o1 o2 o3 O J U V ?_ h5 g;cases hi:P.info? e with
    |none=>rw[hi]at hz;cases hz
    |some i=>exact⟨i,rfl⟩
   ·rename_i e ob off len sz c I;obtain⟨⟨O,J,U,V,hz,rfl⟩,g⟩:=g;refine ZG j I o1 o2 o3 O J U V ?_ g;cases hi:P.info? e with
    |none=>rw[hi]at hz;cases hz
    |some i=>exact⟨i,rfl⟩
   ·rename_i ta cs off I;obtain⟨rfl,rfl,rfl,g⟩:=g;have nn:∀{x:Option Value},Ef x none->x=none:=λ{x} h=>by
     cases x with
     |none=>rfl
     |some z=>cases h
    split at g
    ·rename_i n e ha;obtain⟨g1,g2,g3,g4⟩:=g;rw[nn o1,nn o2,nn o3];exact ZH j I ha g1 g2 g3 g4
    ·exact g.elim
   ·rename_i n e cs off I;obtain⟨⟨rfl,rfl,rfl⟩,g1,g2,g3,g4⟩:=g;have nn:∀{x:Option Value},Ef x none->x=none:=λ{x} h=>by
     cases x with
     |none=>rfl
     |some z=>cases h
    rw[nn o1,nn o2,nn o3];exact W6 j I g1 g2 g3 g4
   ·exact g.elim
  ·exact g.elim
 · -- fieldAddr
  split at g
  ·rename_i fs I;split at g
   ·rename_i fd hf;exact cW j I hf g.1 g.2
   ·exact g.elim
  ·exact g.elim
 ·split at g
  ·rename_i fs I;split at g
   ·rename_i fd hf;split at g
    ·rename_i v hl;exact ADZ j I hf hl g
    ·exact g.elim
   ·exact g.elim
  ·exact g.elim
 ·obtain⟨v,hv,g⟩:=g;exact pL j hv g
 · -- indexAddr
  split at g
  ·rename_i e own es I;obtain⟨h0,v,O,J,U,V⟩:=g;exact Vg j I h0 O J U V
  ·rename_i e ob off len sz I;obtain⟨h0,O,J,U,V⟩:=g;exact UD j I h0 O J U V
  ·rename_i n e ob off I;obtain⟨h0,O,J,U⟩:=g;exact Np j I h0 O J U
  ·rename_i n e cs off I;obtain⟨h0,O,J,U⟩:=g;exact Np j I h0 O J U
  ·exact g.elim
 ·split at g
  ·rename_i s I;obtain⟨h0,O,J⟩:=g;exact cU j I h0 O J
  ·rename_i n e cs I;obtain⟨h0,O,J,v,U,V⟩:=g;exact cV j I h0 O J U V
  ·exact g.elim
 ·simp only[Option.toArray_none,Ah]at j;exact pG j g
 ·obtain⟨I,g⟩:=g;split at I
  ·rename_i kt et hu';simp only[Option.toArray_some,AW,Ah]at j;exact Vf j hu' g
  ·cases I
 ·simp only[AW,Ah]at j;split at g
  ·rename_i kt et I;split at g
   ·rename_i es he;obtain⟨g1,g2,z,g3,g4⟩:=g;exact vq j I he g1 g2 g3 g4
   ·exact g.elim
  ·exact g.elim
 ·simp only[AW,Ah]at j;split at g
  ·rename_i kt et I;split at g
   ·rename_i es he;obtain⟨g1,g2,g3,g4⟩:=g;exact cQ j I he g1 g2 g3 g4
   ·exact g.elim
  ·exact g.elim
 ·simp only[AW,Ah]at j;exact ADY j g
 ·simp only[AW,Ah]at j;exact AHs j g
 ·simp only[AW,Ah]at j;exact ADa j g
 · -- calls
  rename_i c;obtain⟨callee,args,C⟩:=c;cases callee with
  |invoke r m=>exact g.elim
  | value fo =>
   simp only at g;split at g
   ·simp only[Call.operands]at j;split at g
    ·split at g
     ·obtain⟨v,T,g⟩:=g;rcases T with T|T
      ·have:=WI (P:=P) (fv:=ρ fo) (uargs:=args.map ρ) (R:=R) (by simpa using j) ((T H rfl).mono λv' H' hq=>by obtain⟨rfl,rfl⟩:=hq;exact g);simpa [resolve]using this
      ·have:=ADW (P:=P) (fv:=ρ fo) (uargs:=args.map ρ) (R:=R) (by simpa using j) T g;simpa [resolve]using this
     ·obtain⟨v,T,g⟩:=g;have:=WI (P:=P) (fv:=ρ fo) (uargs:=args.map ρ) (R:=R) (by simpa using j) ((T H).mono λv' H' hq=>by obtain⟨rfl,rfl⟩:=hq;exact g);simpa [resolve]using this
    ·split at g
     ·obtain⟨v,ext,T,g⟩:=g;have:=WI (P:=P) (fv:=ρ fo) (uargs:=args.map ρ) (R:=R) (by simpa using j) (T.mono λv2 H2 hq=>by obtain⟨rfl,rfl⟩:=hq;exact g);simpa [resolve]using this
     ·have T:=g;have:=WI (P:=P) (fv:=ρ fo) (uargs:=args.map ρ) (R:=R) (by simpa using j) T;simpa [resolve]using this
   ·simp only[Call.operands]at j;have:=ADV (P:=P) (fv:=ρ fo) (uargs:=args.map ρ) (R:=R) (by simpa using j) g.2;simpa [resolve]using this
   ·exact g.elim
  | builtin b =>
   simp only[Call.operands]at j;have e0:∀(as:Array Operand),List.map ρ ((#[]:Array Operand)++as).toList=(as.map ρ).toList:=by intro as;simp
   cases b<;>simp only at g<;>first|exact g.elim|skip
   case append =>
    split at g
    ·rename_i a b t t' hat
     by_cases htt:t=t'
     case neg =>
      rw[iN htt]at g;have hat':C=#[t,t']:=by rw[<- Br (xs:=C),hat]
      subst hat';obtain⟨u,v,huv⟩:=TQ (us:=args.map ρ) (by have:=j.l.len;simp at this;simp;omega);rw[e0,huv]at j;simp only[resolve,huv,AK,Ae,Ad,invoke,builtin];simpa only[AK,Ae]using ALY (ty:=o.type) j g
     subst htt;rw[iP rfl]at g;split at g
     ·rename_i e I;obtain⟨O,U,g⟩:=g;have hat':C=#[t,t]:=by rw[<- Br (xs:=C),hat]
      subst hat';obtain⟨u,v,huv⟩:=TQ (us:=args.map ρ) (by have:=j.l.len;simp at this;simp;omega);rw[e0,huv]at j;simp only[resolve,huv,AK,Ae,Ad,invoke,builtin];split at g
      ·rename_i xs hs;obtain⟨J,g⟩:=g;have hsrc:=ALA j hs J;split at g
       ·obtain⟨rfl,V,h5,h6⟩:=g;cases hln:o.dst.any h.pc.contains
        ·rw[hln]at h6;simpa only[AK,Ae]using al (ty:=o.type) j hsrc I O J U V h5 h6
        ·rw[hln]at h6;have h7:=al (ty:=o.type) (R:=λv H'=>R v.borrow H') j hsrc I O J U V h5 h6;have h8:=pE h7;simpa only[AK,Ae]using h8
       ·obtain⟨rfl,V,h6,h7,g⟩:=g;split at g
        ·rename_i cs ho;obtain⟨h8,h9,gU⟩:=g;simpa only[AK,Ae]using RU (ty:=o.type) j hsrc ho I O V h8 h9 J U h6 h7 gU
        ·exact g.elim
       ·rename_i ob off len sz c hmt;obtain⟨rfl,V,h6,h7,g⟩:=g;split at g
        ·rename_i cs ho;obtain⟨h8,h9,gU⟩:=g;have hc':Ee F G [.msl ob 0 len sz,b] H [u,v] w:=by
          obtain⟨hv1,_,hr1⟩:=j.l.uncons;cases hv1 with
          |mslc _ _ _ _ _ b' hb hl hm hcc =>
           refine⟨.cons (.msl ob 0 len sz b' c hb hl hm hcc) (GC (Fu rfl rfl _) _ _ _) hr1,j.h,λx=>?_⟩;have:=j.cnt x;rw[Fx,Fu rfl rfl]at this ⊢;exact this
         simpa only[AK,Ae]using RU (ty:=o.type) hc' hsrc ho I O V h8 h9 J U h6 h7 gU
        ·exact g.elim
       ·obtain⟨V,h5,h6,h7⟩:=g;simpa only[AK,Ae]using ZK (ty:=o.type) j hsrc I O J U V h5 h6 h7
       ·exact g.elim
      ·exact g.elim
     ·exact g.elim
    ·exact g.elim
   case cap =>
    split at g
    ·rename_i ob off len sz cp;obtain⟨u,hu1⟩:=d6 (us:=args.map ρ) (by have:=j.l.len;simp at this;simp;omega);rw[e0,hu1]at j;simp only[resolve,hu1,AK,Ae,Ad,invoke,builtin];split at g
     ·rename_i e hb;obtain⟨t,O,J⟩:=CG.1 hb;simpa only[AK,Ae]using jO (ty:=o.type) j O J g
     ·exact g.elim
    ·exact g.elim
   case copy =>
    split at g
    ·rename_i a b t t' hat
     have hat':C=#[t,t']:=by rw[<- Br (xs:=C),hat]
     subst hat';obtain⟨u,v,huv⟩:=TQ (us:=args.map ρ) (by have:=j.l.len;simp at this;simp;omega);rw[e0,huv]at j;simp only[resolve,huv,AK,Ae,Ad,invoke,builtin];simpa only[AK,Ae]using ADe (ty:=o.type) j g
    ·exact g.elim
   case clear =>
    split at g
    ·rename_i ob off len sz t hat
     split at g
     ·rename_i e I;split at g
      ·rename_i cs ho;obtain⟨z,O,J,U,V,h5⟩:=g;have hat':C=#[t]:=by rw[<- Br (xs:=C),hat]
       subst hat';obtain⟨u,hu1⟩:=d6 (us:=args.map ρ) (by have:=j.l.len;simp at this;simp;omega);rw[e0,hu1]at j;simp only[resolve,hu1,AK,Ae,Ad,invoke,builtin];simpa only[AK,Ae]using ADb (ty:=o.type) j ho I O J U V h5
      ·exact g.elim
     ·exact g.elim
    ·exact g.elim
   case len =>
    split at g
    ·rename_i x;obtain⟨u,hu1⟩:=d6 (us:=args.map ρ) (by have:=j.l.len;simp at this;simp;omega);rw[e0,hu1]at j;simp only[resolve,hu1,AK,Ae,Ad,invoke,builtin];split at g
     ·rename_i e own es hb;obtain⟨t,O,J⟩:=CG.1 hb;simpa only[AK,Ae]using vr (ty:=o.type) j O J g
     ·rename_i e ob off len sz hb;obtain⟨t,O,J⟩:=CG.1 hb;simpa only[AK,Ae]using pI (ty:=o.type) j O J g
     ·rename_i e ob off len sz c hb;obtain⟨t,O,J⟩:=CG.1 hb;simpa only[AK,Ae]using jN (ty:=o.type) j O J g
     ·rename_i s hb;obtain⟨t,O,J⟩:=CG.1 hb;simpa only[AK,Ae]using pH (ty:=o.type) j O J g
     ·rename_i n e hb;obtain⟨t,O,J⟩:=CG.1 hb;simpa only[AK,Ae]using pJ (ty:=o.type) j O J g
     ·exact g.elim
    ·exact g.elim
   case max =>
    split at g
    ·obtain⟨rfl,g⟩:=g;obtain⟨u,v,huv⟩:=TQ (us:=args.map ρ) (by have:=j.l.len;simp at this;simp;omega);rw[e0,huv]at j;simp only[resolve,huv,AK,Ae,Ad,invoke,builtin];simpa only[AK,Ae]using ALW (P:=P) (ts:=C) (ty:=o.type) j g
    ·exact g.elim
   case min =>
    split at g
    ·obtain⟨rfl,g⟩:=g;obtain⟨u,v,huv⟩:=TQ (us:=args.map ρ) (by have:=j.l.len;simp at this;simp;omega);rw[e0,huv]at j;simp only[resolve,huv,AK,Ae,Ad,invoke,builtin];simpa only[AK,Ae]using ALV (P:=P) (ts:=C) (ty:=o.type) j g
    ·exact g.elim
 ·exact g.elim
end
end Go.AI
namespace Go.AI
def nc(ops:Array Oper)(i:GO)(o:Oper):Option Bool :=
 match o.guard with
 |none=>some true
 | some (j,g)=>match (ops[j]?).bind (·.dst) with
  |some d=>match GJ i d with
   |.bool b=>some (b==g)
   |.tup _=>some false
   |_=>none
  |none=>none
def HO(n:Nat):Option Tmp->Prop
 |some d=>d<n
 |none=>True
def put(d:Option Tmp)(v:AV)(g:GO):GO :=
 match d with
 |some t=>(t,v)::g
 |none=>g
def JK(P:Program)(n:Nat)(h:Eh)(ops:Array Oper)(o:Oper)(K:GO->Fl->Prop)(g:GO)(H:Fl):Prop :=
 match nc ops g o with
 |some true=>HO n o.dst/\GA P h o (Pb P (IA o) (GU h o) o.op.operands.toList g).1 H λv i=>K (put o.dst v (Pb P (IA o) (GU h o) o.op.operands.toList g).2) i
 |some false=>HO n o.dst/\K (put o.dst (.tup []) g) H
 |none=>False
def MB(P:Program)(n:Nat)(h:Eh)(ops:Array Oper):List Oper->(GO->Fl->Prop)->GO->Fl->Prop
 |[],K=>K
 |o::rest,K=>JK P n h ops o (MB P n h ops rest K)
abbrev gV(g:Option Nat):Fence:={ Fence.wide with round:=g }
def dI(w:World)(b:Nat):Prop:=w.heap[b]? =some (.deferred (some []))
def DOk(F:Nat->Prop)(w:World)(i:List Deferred):Prop :=
 ∃g:List Nat,i=g.map (λb=>{ target:=.collected b,args:=#[] })/\g.Nodup /\ ∀b∈g,¬F b/\dI w b
def DOk.nil(F:Nat->Prop)(w:World):DOk F w []:=⟨[],rfl,List.nodup_nil,λb g=>by cases g⟩
def DOk.keep{F:Nat->Prop}{w g:World}{i:List Deferred}(h:DOk F w i)(p:∀b,dI w b->dI g b):DOk F g i:=by
 obtain⟨r,t,C,j⟩:=h;exact⟨r,t,C,λb o=>⟨(j b o).1,p b (j b o).2⟩⟩
def ORel.not_isD{F:Nat->Prop}{G:Gh}{w:World}{r:List AV}{b:Nat}(h:ORel F G w r b): ¬dI w b:=λj=>by
 have i:=h.is;unfold dI at j;split at i
 ·obtain⟨C,E,g,_⟩:=i;rw[j]at g;cases g
 ·obtain⟨J,O,P,g,_⟩:=i;rw[j]at g;cases g
 ·rcases i with⟨s,I,g,_⟩|⟨g,_⟩|⟨_,_,_,_,g,_⟩<;>(rw[j]at g;cases g)
 ·obtain⟨s,p,t,D,st,o,g,_⟩:=i;rw[j]at g;cases g
 ·exact i.elim
def CRel.addD{F:Nat->Prop}{G:Gh}{R:List AV}{H:Fl}{T:List Value}{w:World}(h:Ee F G R H T w):Ee (λb=>F b\/dI w b) G R H T w:=by
 have t:∀{p:AV×Value},Gg F G w p->Gg (λb=>F b\/dI w b) G w p:=λr=>r.keep λb O=>by
  obtain⟨g,_,C,E,U⟩:=r.of_tok O;refine⟨?_,rfl,rfl⟩;rintro (I|j)
  ·exact g I
  ·unfold dI at j;rw[U]at j;cases j
 refine⟨⟨h.l.len,h.l.rel,λi a u g J p r=>t (h.l.tok i a u g J p r)⟩,⟨h.h.len,λo P b g J=>?_,h.h.inj,λb O=>?_,h.h.glob⟩,h.cnt⟩
 ·refine(h.h.obj o P b g J).change ?_ λ_ _ _ _ _ _ _ _ r=>t r;rintro (I|j)
  ·exact(h.h.obj o P b g J).own I
  ·exact(h.h.obj o P b g J).not_isD j
 ·rcases O with I|j
  ·exact h.h.fore b I
  ·exact(Au.1 j).1
structure SRel (F:Nat->Prop) (G:Gh) (n:Nat) (env:GO) (H:Fl) (a:Act) (w:World):Prop where
 size:a.tmps.size=n
 defers:DOk F w a.defers
 out:∀t,n<=t->GJ env t = .undef
 c:Ee F G (HQ n env) H a.tmps.toList w
section
variable{P:Program}{F:Nat->Prop}{G:Gh}{w:World}{H:Fl}{n:Nat}{env:GO}{a:Act}{h:Eh}{ops:Array Oper}
def OP(F:Nat->Prop)(G:Gh)(w:World)(n:Nat)(K:GO->Fl->Prop)(p:Act)(i:World):Prop :=
 ∃g j o,K g j/\SRel F o n g j p i/\Ext F G w o i
def CRel.setSlot{v:AV}{L:List AV}{u:Value}{tm:List Value}(t:Ee F G (v::L) H (u::tm) w){d:Nat}(I:d<tm.length):Ee F G (L.set d v) H (tm.set d u) w:=by
 obtain⟨J,O,C⟩:=t.l.uncons;have o:=C.len;have p:L[d]? =some (L[d]' Fj):=AL _;have r:tm[d]? =some tm[d]:=AL _;refine⟨⟨by simp[o],λi x y j g=>?_,λi x y j g=>?_⟩,t.h,λb=>?_⟩
 ·rw[Az]at j g;split at j
  ·rename_i e;subst e;rw[iP rfl,iP I]at g;rw[iP Fj]at j;cases j;cases g;exact J
  ·rename_i e;rw[iN e]at g;exact C.rel i x y j g
 ·rw[Az]at j g;split at j
  ·rename_i e;subst e;rw[iP rfl,iP I]at g;rw[iP Fj]at j;cases j;cases g;exact O
  ·rename_i e;rw[iN e]at g;exact C.tok i x y j g
 ·have j:=Wg b L tm d v _ u _ p r;have g:=t.cnt b;rw[Fx]at g;omega
def CRel.tail{v:AV}{L:List AV}{u:Value}{i:List Value}(g:Ee F G (v::L) H (u::i) w):Ee F G L H i w :=
 ⟨g.l.uncons.2.2,g.h,λb=>by have:=g.cnt b;rw[Fx]at this;omega⟩
def Wk{v:AV}{u:Value}(o:a.tmps.size=n)(p:DOk F w a.defers)(r:∀t,n<=t->GJ env t = .undef)(C:Ee F G (v::HQ n env) H (u::a.tmps.toList) w)(g:Option Tmp)(j:HO n g):
  SRel F G n (put g v env) H (a.put g u) w:=by
 cases g with
 |none=>exact⟨o,p,r,C.tail⟩
 | some d =>
  have i:d<n:=j;refine⟨by simp[Act.put,o],p,λt I=>?_, ?_⟩
  ·simp only[put,GJ];rw[iN (λe=>by subst e;exact absurd i (Nat.not_lt.2 I))];exact r t I
  ·simp only[put,Act.put,Array.toList_setIfInBounds];rw[Ua env v i];exact C.setSlot (by simp[o];exact i)
def aG{o:Oper}{b:Bool}(t:SRel F G n env H a w)(i:nc ops env o=some b):Region.wanted o (yielded ops a.tmps)=b:=by
 unfold nc at i;unfold Region.wanted;cases C:o.guard with
 |none=>rw[C]at i;simp only[Option.some.injEq]at i;exact i
 | some p =>
  obtain⟨j,I⟩:=p;rw[C]at i;simp only at i ⊢;cases P:(ops[j]?).bind (·.dst)with
  |none=>rw[P]at i;cases i
  | some d =>
   rw[P]at i;simp only at i;split at i
   ·rename_i R r;have g:d<n:=by
     by_cases g:d<n
     ·exact g
     ·rw[t.out d (B' g)]at r;cases r
    obtain⟨x,J⟩:∃x,a.tmps[d]? =some x:=⟨_,Al (by rw[t.size];exact g)⟩;have O:=t.c.l.rel d (GJ env d) x (I0 env g) (by rw[Af];exact J);rw[r]at O;have T:a.tmps[d]? =some (.bool R):=by rw[J];cases O;rfl
    simp only[Option.some.injEq]at i;unfold yielded;rw[P];simp only[Bi,T];rw[<- i];cases R<;>cases I<;>rfl
   ·rename_i U r;have g:d<n:=by
     by_cases g:d<n
     ·exact g
     ·rw[t.out d (B' g)]at r;cases r
    obtain⟨x,J⟩:∃x,a.tmps[d]? =some x:=⟨_,Al (by rw[t.size];exact g)⟩;have O:=t.c.l.rel d (GJ env d) x (I0 env g) (by rw[Af];exact J);rw[r]at O;simp only[Option.some.injEq]at i;subst i;unfold yielded;rw[P];simp only[Bi,J];cases O;rfl
   ·cases i
def Zc{o:Oper}{g:List AV}{R:AV->Fl->Prop}(i:GA P h o g H R): ∀c,o.op ≠ .defer c:=λc j=>by
 unfold GA at i;rw[j]at i;exact i
def mB{ro:Option Nat}{nn:Nat}{o:Oper}{K:GO->Fl->Prop}(j:SRel F G n env H a w)(O:JK P n h ops o K env H)(Q:Exit->Act->World->Prop):
  if Region.wanted o (yielded ops a.tmps)then o.wpIn (gV ro) nn P a w (OP F G w n K) Q else OP F G w n K (a.put o.dst Go.undef) w:=by
 unfold JK at O;split at O
 ·rename_i hg;rw[aG j hg,iP rfl];obtain⟨C,O⟩:=O;obtain⟨I,hout⟩:=AEx (P:=P) (w:=w) (F:=F) (G:=G) (H:=H) (a:=a) (IA o) (GU h o) j.size o.op.operands.toList env [] [] j.c rfl j.out;simp only[AM]at I;generalize Pb P (IA o) (GU h o) o.op.operands.toList env=r at *;have J:r.1.length=(o.op.operands.toList.map a.eval).length:=by
   have:=I.l.len;simp only[AE,H9,Array.length_toList,j.size]at this;omega
  obtain⟨_,hB⟩:=I.l.split J;have hA:=(I.split J).addD;have hcb:∀b,Hm b (HQ n r.2) a.tmps.toList<=1:=λb=>by
   have:=I.cnt b;rw[G7 _ _ _ _ _ J]at this;omega
  have g:=AJB h o a.eval (λ_=>rfl) r.1 hA O;have back:∀u t,GB (λb=>(F b\/0<Hm b (HQ n r.2) a.tmps.toList)\/dI w b) G w (λv H'=>K (put o.dst v r.2) H') u t->OP F G w n K (a.put o.dst u) t:=by
   rintro u t ⟨v,H',G',hK,hc,V⟩;have hj:=U2 (F:=F) hB hcb (λb R=>CH (CH R)) (λb R=>CH (Or.inr R)) V hc;have hdk:DOk F t a.defers:=j.defers.keep λb R=>(V.cells b (Or.inr R)).trans R;exact⟨_,H',G',hK,Wk j.size hdk hout hj o.dst C,V.mono λb R=>CH (CH R)⟩
  refine⟨λ_ _=>trivial, ?_⟩;rw[Oper.semAt_eq _ _ _ (Zc O)];generalize (execOp a.eval o).run P w=res at g;cases res with
  | ok nx t =>
   cases nx<;>simp only[GR]at g
   case value u=>exact back u t g
   case skip=>exact back _ t g
   case enter f args =>
    show _/\CallsIn (gV ro) (nn - 1) P f args t _;refine⟨λhx=>Bool.noConfusion hx, ?_⟩;refine CallsIn.mono (show CallsIn (gV ro) (nn - 1) P f args t _ from(callsIn_wide (n:=nn - 1)).2 g) λe w'' V=>?_;obtain⟨u,rfl,hk⟩:=V;exact back u w'' hk
   case round l f T p U =>
    show _/\RoundIn (gV ro) (nn - 1) P l f T p U t _;refine⟨λhx=>Bool.noConfusion hx, ?_⟩;refine RoundIn.mono (show RoundIn (gV ro) (nn - 1) P l f T p U t _ from⟨trivial,λc cs _=>g.2 c cs (room_wide _)⟩) λe w'' V=>?_;obtain⟨u,rfl,hk⟩:=V;exact back u w'' hk
  |halt x t=>exact g.elim
 ·rename_i hg;rw[aG j hg];obtain⟨C,O⟩:=O;refine⟨_,H,G,O,Wk j.size j.defers j.out ?_ o.dst C,.refl F G w⟩;have htk:HY (.tup []) Go.undef=[]:=rfl;refine⟨.cons (.tup [] #[] rfl (λc hc=>by simp at hc) (λi c v hc=>by simp at hc)) (GC htk F G w) j.c.l,j.c.h,λb=>?_⟩;rw[Fx,htk];simpa using j.c.cnt b
 ·exact O.elim
def bf{ro:Option Nat}{nn:Nat}(Q:Exit->Act->World->Prop): ∀(l:List Oper) (K:GO->Fl->Prop) (G:Gh) (env:GO) (H:Fl) (a:Act) (w:World),SRel F G n env H a w->MB P n h ops l K env H ->
  (∀i j,OP F G w n K i j->Q .normal i j)->wpListIn (gV ro) nn P ops Q l a w
 |[],K,G,env,H,a,w,t,C,I=>I a w ⟨env,H,G,C,t,.refl F G w⟩
 | o::l,K,G,env,H,a,w,t,C,I=>by
  have g:=mB (ro:=ro) (nn:=nn) (K:=MB P n h ops l K) t C Q;have next:∀i j,OP F G w n (MB P n h ops l K) i j->wpListIn (gV ro) nn P ops Q l i j:=by
   rintro i j ⟨p,H',G',hK,J,he⟩;refine bf Q l K G' p H' i j J hK λO R=>?_;rintro ⟨r,H2,G2,T,U,V⟩;exact I O R ⟨r,H2,G2,T,U,he.trans V⟩
  unfold wpListIn;split
  ·rename_i hw;rw[iP hw]at g;exact Oper.wpIn_mono next g
  ·rename_i hw;rw[iN hw]at g;exact⟨λ_ _=>trivial,next _ _ g⟩
def l6{j:Option Nat}{o:Nat}{id:Nat}(K:GO->Fl->Prop)(Q:Exit->Act->World->Prop)(p:SRel F G n env H a w)(r:MB P n h ops ops.toList K env H)(t:∀g i,OP F G w n K g i->Q .normal g i):
  (Code.region id ops false).wpIn (gV j) o P Q a w :=
 wpIn_region_list (bf Q ops.toList K G env H a w p r t)
end
end Go.AI
namespace Go.AI
def He(h:Eh)(o:Oper):Nat :=
 match o.op with
 |.box _ _ | .alloc _ | .makeSlice _ _ _ | .makeMap _ _=>5
 |.store _ _ _ | .lookup _ _ _ _ | .mapUpdate _ _ _ _=>3
 |.buildSlice _ _ _=>if o.dst.any h.mt.contains then 5 else 0
 |.slice _ _ _ _ _=>if o.dst.any h.mt.contains then 1 else 0
 |.load _ _=>if o.dst.any h.tk.contains then 2 else 1
 |.binOp _ _ _ y _=>if Le y then 4 else 0
 |.range _ _ | .next _ _ | .entry _=>4
 |.call c=>match c.callee with
  |.value _=>if o.dst.any h.pc.contains then(if o.dst.any h.mt.contains then 1 else 0)else if o.dst.any h.mt.contains then 5 else 4
  |.builtin .append=>if o.dst.any h.mt.contains||o.dst.any h.tk.contains then 3 else 0
  |.builtin .clear=>3
  |.builtin .copy=>3
  |_=>0
 |_=>0
def S5(h:Eh)(o:Oper):Bool:=match o.op with
 |.load _ _ => !o.dst.any h.tk.contains
 |_=>false
def JF{h:Eh}{o:Oper}(g:S5 h o=true):He h o=1:=by
 unfold S5 at g;unfold He;split at g
 ·rename_i i;rw[i];simp only[Bf]at g;simp[g]
 ·cases g
section
variable{P:Program}{h:Eh}{o:Oper}{vals:List AV}{H:Fl}{R:AV->Fl->Prop}
structure Fact (P:Program) (h:Eh) (o:Oper) (vals:List AV) (H:Fl) (v:AV) (H':Fl):Prop where
 again:∀R',R' v H'->GA P h o vals H R'
 c0:He h o=0->H'=H /\ ∀H2 R',R' v H2->GA P h o vals H2 R'
 c1:He h o=1->H'=H /\ ∀H2 R',Hc H2=Hc H->R' v H2->GA P h o vals H2 R'
 c2:He h o=2->Hc H'=Hc H/\((H'=H /\ ∀H2 R',R' v H2->GA P h o vals H2 R') \/
  ∃(ob off:Nat) (cs:List AV),H[ob]? =some (some cs)/\cs[off]? =some v/\GY v=true/\H'=H.set ob (some (cs.set off (borrow1 v))) /\
   ∀(H2:Fl) (cs2:List AV) (R':AV->Fl->Prop),H2[ob]? =some (some cs2)->cs2[off]? =some v->R' v (H2.set ob (some (cs2.set off (borrow1 v))))->GA P h o vals H2 R')
 ld:S5 h o=true -> ∀H2 R',(∃ext,Hc H2=Hc H++ext)->R' v H2->GA P h o vals H2 R'
 c5:He h o=5 -> ∃ext,H'=H++ext
def Fact.pure{v:AV}(t:He h o=0)(i:∀(j:Fl) (g:AV->Fl->Prop),g v j->GA P h o vals j g):Fact P h o vals H v H :=
 ⟨λg p=>i H g p,λ_=>⟨rfl,i⟩,λe=>Fj,λe=>Fj,λr=>by have:=JF r;omega,λe=>Fj⟩
def Fact.any{v:AV}{g:Fl}(r:He h o=3)(j:∀(i:AV->Fl->Prop),i v g->GA P h o vals H i):Fact P h o vals H v g :=
 ⟨j,λe=>Fj,λe=>Fj,λe=>Fj,λp=>by have:=JF p;omega,λe=>Fj⟩
def Fact.ext{v:AV}{ext:Fl}(p:He h o=5)(i:∀(g:AV->Fl->Prop),g v (H++ext)->GA P h o vals H g):Fact P h o vals H v (H++ext) :=
 ⟨i,λe=>Fj,λe=>Fj,λe=>Fj,λj=>by have:=JF j;omega,λ_=>⟨ext,rfl⟩⟩
def Oy(a:AV):borrow1 (borrow1 a)=borrow1 a:=by cases a<;>rfl
def LN{H r:Fl}(e:Hc r=Hc H){j:Nat}{o:List AV}(t:H[j]? =some (some o)): ∃g,r[j]? =some (some g)/\g.map borrow1=o.map borrow1:=by
 have p:(Hc H)[j]? =some (some (o.map borrow1)):=by simp[Hc,t]
 rw[<- e]at p;simp only[Hc,Ac,DF]at p;obtain⟨x,C,i⟩:=p;cases x with
 |none=>simp at i
 |some g =>
  exact⟨g,C,by simpa using i⟩
def wi{H p:Fl}(e:∃ext,Hc p=Hc H++ext){j:Nat}{o:List AV}(C:H[j]? =some (some o)): ∃g,p[j]? =some (some g)/\g.map borrow1=o.map borrow1:=by
 obtain⟨ext,e⟩:=e;have r:(Hc H)[j]? =some (some (o.map borrow1)):=by simp[Hc,C]
 have t:(Hc p)[j]? =some (some (o.map borrow1)):=by
  rw[e,Aa (AD.1 r).1];exact r
 simp only[Hc,Ac,DF]at t;obtain⟨x,I,i⟩:=t;cases x with
 |none=>simp at i
 |some g=>exact⟨g,I,by simpa using i⟩
def QI(a:AV):(borrow1 a).borrow=a.borrow:=by cases a<;>rfl
def jh{t:TypeId}{o i:List AV}{g:Nat}{v:AV}(e:i.map borrow1=o.map borrow1)(j:Mb P t o g=some v): ∃p,Mb P t i g=some p/\p.borrow=v.borrow:=by
 have r:i.length=o.length:=by have:=congrArg List.length e;simpa using this
 have agg:(AV.agg ((i.drop g).take (P.cellsOf t))).borrow=(AV.agg ((o.drop g).take (P.cellsOf t))).borrow:=by
  simp only[AV.borrow,borrow0,EL,Dn,e]
 unfold Mb at j ⊢;split at j
 ·split at j
  ·cases j;exact⟨_,by rw[iP Fj],agg⟩
  ·cases j
 ·split at j
  ·cases j;exact⟨_,by rw[iP Fj],agg⟩
  ·cases j
 ·have J:=(AD.1 j).1;have C:i[g]? =some (i[g]' Fj):=AL _;refine⟨_,C, ?_⟩;have I:(i.map borrow1)[g]? =(o.map borrow1)[g]?:=by rw[e]
  simp only[Ac,C,j,Bb,Option.some.injEq]at I;rw[<- QI,I,QI]
 ·cases j
def bA{H:Fl}{j:Nat}{o g:List AV}(p:H[j]? =some (some o))(e:g.map borrow1=o.map borrow1):Hc (H.set j (some g))=Hc H:=by
 unfold Hc;apply A6;intro i;simp only[Ac,Az];split
 ·rename_i r;subst r;rw[iP (AD.1 p).1,p];simp[e]
 ·rfl
def v_{t:TypeId}{j:List AV}{g:Nat}{v:AV}(i:Mb P t j g=some v)(I:v.scalar=true\/TR P t=true):(splice j g (v.cells.map borrow1)).map borrow1=j.map borrow1:=by
 have gen:∀k,g+k<=j.length->(splice j g (((j.drop g).take k).map borrow1)).map borrow1=j.map borrow1:=by
  intro k V;have r:(((j.drop g).take k).map borrow1).length=k:=IG;unfold splice;rw[r];simp only[Aq,Bs];have T:(borrow1 ∘ borrow1)=borrow1:=funext Oy;rw[T,<- Aq,<- Aq,AF,<- List.drop_drop,A8,A8]
 unfold Mb at i;split at i
 ·split at i
  ·cases i;exact gen _ ‹_›
  ·cases i
 ·split at i
  ·cases i;exact gen _ ‹_›
  ·cases i
 ·rename_i d J O U;have p:=(AD.1 i).1;have R:v.scalar=true:=by
   rcases I with C|C
   ·exact C
   ·unfold TR at C;rw[U]at C;cases d<;>first|exact(J _ rfl).elim|exact(O _ _ rfl).elim|cases C
  have o:v.cells=[v]:=by cases v<;>first|rfl|cases R
  have:=gen 1 p;rw[List.drop_eq_getElem_cons p]at this;have e:j[g]=v:=by rw[AL p]at i;exact Option.some.inj i
  rw[o];simpa [e]using this
 ·cases i
def AGK{o:BinOp}{a b:AV}{R:AV->Prop}(g:K5 o a b R): ∃v,R v /\ ∀j:AV->Prop,j v->K5 o a b j:=by
 unfold K5 at g ⊢;split at g
 ·cases o<;>first|exact⟨_,g.2,λj i=>⟨g.1,i⟩⟩|exact⟨_,g.2.2,λj i=>⟨g.1,g.2.1,i⟩⟩
 ·cases o<;>first|exact⟨_,g.2,λj i=>⟨g.1,i⟩⟩|exact⟨_,g,λj i=>i⟩|exact g.elim
 ·exact g.elim
def rv{o:BinOp}{t:TypeId}{a b:AV}{R:AV->Prop}(g:KU P o t a b R): ∃v,R v /\ ∀i:AV->Prop,i v->KU P o t a b i:=by
 unfold KU at g ⊢;split at g
 ·exact⟨_,g,λi j=>j⟩
 ·exact⟨_,g,λi j=>j⟩
 ·obtain⟨v,p,r⟩:=AGK g;exact⟨v,p,r⟩
def Rc.view{f:FuncId}{r:List AV}{H i:Fl}{v:AV}(t:Hc i=Hc H)(h:Rc P f r H v):Rc P f r i v:=by
 have get:∀o:Nat,(∃g:List AV,H[o]? =some (some g)) -> ∃g:List AV,i[o]? =some (some g):=λo j=>by
  obtain⟨g,j⟩:=j;obtain⟨p,C,_⟩:=LN t j;exact⟨p,C⟩
 unfold Rc at h ⊢;split at h
 ·exact⟨h.1,h.2.1,get _ h.2.2.1,get _ h.2.2.2.1,h.2.2.2.2⟩
 ·exact h.elim
def rX{t:TypeId}{x:AV}{lo hi mx:Option Int}{R:AV->Prop}(i:O2 P t x lo hi mx R): ∃v,R v /\ ∀j:AV->Prop,j v->O2 P t x lo hi mx j:=by
 unfold O2 at i ⊢;split at i
 ·obtain⟨o,r,C,p,J⟩:=i;exact⟨_,J,λj g=>⟨o,r,C,p,g⟩⟩
 ·obtain⟨o,r,C,p,J,I⟩:=i;split at I
  ·exact⟨_,I,λj g=>⟨o,r,C,p,J,g⟩⟩
  ·exact⟨_,I.2.2,λj g=>⟨o,r,C,p,J,I.1,I.2.1,g⟩⟩
 ·exact⟨_,i.2,λj g=>⟨i.1,g⟩⟩
 ·exact⟨_,i.2,λj g=>⟨i.1,g⟩⟩
 ·obtain⟨o,r,C,p⟩:=i;split at p
  ·obtain⟨O,T,U,V⟩:=p;exact⟨_,V,λj g=>⟨o,r,C,O,T,U,g⟩⟩
  ·exact p.elim
 ·obtain⟨o,O,T,U,V⟩:=i;exact⟨_,V,λj g=>⟨o,O,T,U,g⟩⟩
 ·exact i.elim
def ABX{t:TypeId}{a b:AV}(g:VQ P t a b H R): ∃v o,R v o /\ ∀i:AV->Fl->Prop,i v o->VQ P t a b H i:=by
 unfold VQ at g ⊢;split at g
 ·split at g
  ·obtain⟨p,j⟩:=g;split at j
   ·exact⟨_,_,j,λi r=>⟨p,r⟩⟩
   ·exact j.elim
  ·exact g.elim
 ·exact g.elim
def AJC{t j:TypeId}{mt:Bool}{a b:AV}(g:apz P t j mt a b H R):mt=true /\ ∃v o,R v o /\ ∀i:AV->Fl->Prop,i v o->apz P t j mt a b H i:=by
 unfold apz at g ⊢;split at g
 ·split at g
  ·obtain⟨z,p,r,C⟩:=g;exact⟨rfl,_,_,C,λi I=>⟨z,p,r,I⟩⟩
  ·exact g.elim
 ·exact g.elim
def l8{t:TypeId}{x:AV}{T U V:Option Int}{R:AV->Prop}(g:K1 P t x T U V H R): ∃v,R v /\ ∀(i:Fl) (j:AV->Prop),Hc i=Hc H->j v->K1 P t x T U V i j:=by
 unfold K1 at g;split at g
 ·rename_i p;obtain⟨r,C,I,o⟩:=g;split at o
  ·rename_i cs ho;refine⟨_,o.2,λi j hv J=>?_⟩;obtain⟨O,g1,g2⟩:=LN hv ho;have hl:O.length=cs.length:=by have:=congrArg List.length g2;simpa using this
   unfold K1;simp only[p,g1,hl];exact⟨r,C,I,o.1,J⟩
  ·exact o.elim
 ·rename_i p;obtain⟨r,C,I⟩:=g;refine⟨_,I,λi j _ J=>?_⟩;unfold K1;simp only[p];exact⟨r,C,J⟩
 ·exact g.elim
def Un(hc4:He h o≠4)(i:GA P h o vals H R): ∃ v H',R v H'/\Fact P h o vals H v H':=by
 unfold GA at i;split at i<;>rename_i g
 ·exact⟨_,_,i,.pure (by simp[He,g]) λC p j=>by simp only[GA,g];exact j⟩
 ·exact⟨_,_,i,.pure (by simp[He,g]) λC p j=>by simp only[GA,g];exact j⟩
 ·exact⟨_,_,i,.pure (by simp[He,g]) λC p j=>by simp only[GA,g];exact j⟩
 ·exact⟨_,_,i.2,.ext (by simp[He,g]) λp j=>by simp only[GA,g];exact⟨i.1,j⟩⟩
 ·split at i
  ·rename_i hm;exact⟨_,_,i.2,.ext (by simp[He,g]) λp j=>by simp only[GA,g,hm];exact⟨i.1,j⟩⟩
  ·rename_i hm;obtain⟨z,hz,i⟩:=i;exact⟨_,_,i,.ext (by simp[He,g]) λp j=>by simp only[GA,g,hm];exact⟨z,hz,j⟩⟩
 ·split at i
  ·rename_i J;obtain⟨z,cs,I,O,h3,h4⟩:=i;exact⟨_,_,h4,.pure (by simp[He,g]) λC p j=>by simp only[GA,g,J];exact⟨z,cs,I,O,h3,j⟩⟩
  ·rename_i J;obtain⟨z,cs,I,O,h3,h4⟩:=i;exact⟨_,_,h4,.pure (by simp[He,g]) λC p j=>by simp only[GA,g,J];exact⟨z,cs,I,O,h3,j⟩⟩
  ·exact i.elim
 ·split at i
  ·rename_i J;obtain⟨I,O,h3,h4,h5,h6⟩:=i;split at h6
   ·rename_i hp;exact⟨_,_,h6,.ext (by simp[He,g,hp]) λp j=>by simp only[GA,g,J,hp];exact⟨I,O,h3,h4,h5,j⟩⟩
   ·rename_i hp;exact⟨_,_,h6,.pure (by simp[He,g,hp]) λC p j=>by simp only[GA,g,J,hp];exact⟨I,O,h3,h4,h5,j⟩⟩
  ·exact i.elim
 ·split at i
  ·rename_i J;obtain⟨I,O,h3,h4,h5,z,h6,h7,h8,h9⟩:=i;exact⟨_,_,h9,.ext (by simp[He,g]) λp j=>by simp only[GA,g,J];exact⟨I,O,h3,h4,h5,z,h6,h7,h8,j⟩⟩
  ·exact i.elim
 · -- load from an object
  rename_i t _ ob off;split at i
  ·rename_i cs ho;split at i
   ·rename_i v V;split at i
    ·rename_i ht;obtain⟨hown,hsc,i⟩:=i;have hc1:He h o=2:=by simp[He,g,ht]
     have hcells:v.cells=[v]:=by cases v<;>first|rfl|cases hsc
     have hat:cs[off]? =some v:=by
      have I:=V;unfold Mb at I;split at I
      ·split at I
       ·cases I;cases hsc
       ·cases I
      ·split at I
       ·cases I;cases hsc
       ·cases I
      ·exact I
      ·cases I
     have hone:∀cs2:List AV,off<cs2.length->splice cs2 off (v.cells.map borrow1)=cs2.set off (borrow1 v):=by
      intro cs2 hlt;rw[hcells];simp only[AW,Ah,splice,AC,AG,AX];rw[List.set_eq_take_append_cons_drop,iP hlt];simp
     have hldv:∀cs2:List AV,cs2[off]? =some v->Mb P t cs2 off=some v:=by
      intro cs2 O;unfold Mb at V ⊢;split at V
      ·split at V
       ·cases V;cases hsc
       ·cases V
      ·split at V
       ·cases V;cases hsc
       ·cases V
      ·exact O
      ·cases V
     have hown1:GY v=true:=by
      cases v<;>first|cases hsc|skip
      all_goals first|(simpa [AV.owned,AV.flat,AV.cells]using hown)|rfl
     refine⟨_,_,i,λp j=>by simp only[GA,g,ho,V,ht];exact⟨hown,hsc,j⟩,λe=>Fj,λe=>Fj,λ_=>⟨bA ho (v_ V (.inl hsc)),.inr ⟨ob,off,cs,ho,hat,hown1, ?_,λC cs2 p I O j=>?_⟩⟩,λV=>by have:=JF V;omega,λe=>Fj⟩
     ·rw[hone cs (AD.1 hat).1]
     ·simp only[GA,g,I,hldv cs2 O,ht];refine⟨hown,hsc, ?_⟩;rw[hone cs2 (AD.1 O).1];exact j
    ·rename_i ht;have hc1:He h o=1:=by simp[He,g,ht]
     refine⟨_,_,i,λp j=>?_,λe=>Fj,λe=>⟨rfl,λC p hv j=>?_⟩,λe=>Fj,λ_ C p hv j=>?_,λe=>Fj⟩
     ·simp only[GA,g,ho,V,ht];exact j
     ·obtain⟨cs2,ho2,e2⟩:=LN hv ho;obtain⟨v2,hl2,hb⟩:=jh (P:=P) e2 V;simp only[GA,g,ho2,hl2,ht];rw[hb];exact j
     ·obtain⟨cs2,ho2,e2⟩:=wi hv ho;obtain⟨v2,hl2,hb⟩:=jh (P:=P) e2 V;simp only[GA,g,ho2,hl2,ht];rw[hb];exact j
   ·exact i.elim
  ·exact i.elim
 ·split at i
  ·rename_i v V;refine⟨_,_,i,λp j=>by simp only[GA,g,V];exact j,λe=>?_,λe=>⟨rfl,λC p _ j=>by simp only[GA,g,V];exact j⟩,λ_=>⟨rfl,.inl ⟨rfl,λC p j=>by simp only[GA,g,V];exact j⟩⟩,λ_ C p _ j=>by simp only[GA,g,V];exact j,λe=>by simp only[He,g]at e;split at e<;>omega⟩;simp only[He,g]at e;split at e<;>omega
  ·exact i.elim
 ·split at i
  ·rename_i cs ho;obtain⟨I,O,h3,h4,h5⟩:=i;exact⟨_,_,h5,.any (by simp[He,g]) λp j=>by simp only[GA,g,ho];exact⟨I,O,h3,h4,j⟩⟩
  ·exact i.elim
 ·exact⟨_,_,i,.pure (by simp[He,g]) λC p j=>by simp only[GA,g];exact j⟩
 ·exact⟨_,_,i,.pure (by simp[He,g]) λC p j=>by simp only[GA,g];exact j⟩
 ·exact⟨_,_,i,.pure (by simp[He,g]) λC p j=>by simp only[GA,g];exact j⟩
 ·exact⟨_,_,i,.pure (by simp[He,g]) λC p j=>by simp only[GA,g];exact j⟩
 ·split at i
  ·rename_i hy;exact absurd (by simp[He,g,hy]) hc4
  ·rename_i hy;obtain⟨v,I,O⟩:=rv i;exact⟨_,_,I,.pure (by simp[He,g,hy]) λC p j=>by simp only[GA,g,hy];exact O _ j⟩
 ·split at i
  ·exact⟨_,_,i,.pure (by simp[He,g]) λC p j=>by simp only[GA,g];exact j⟩
  ·exact⟨_,_,i,.pure (by simp[He,g]) λC p j=>by simp only[GA,g];exact j⟩
  ·exact i.elim
 ·split at i
  ·rename_i I O;exact⟨_,_,i,.pure (by simp[He,g]) λC p j=>by simp only[GA,g,I,O];exact j⟩
  ·rename_i I O;exact⟨_,_,i,.pure (by simp[He,g]) λC p j=>by simp only[GA,g,I,O];exact j⟩
  ·rename_i I O;exact⟨_,_,i.2.2,.pure (by simp[He,g]) λC p j=>by simp only[GA,g,I,O];exact⟨i.1,i.2.1,j⟩⟩
  ·exact i.elim
 ·exact⟨_,_,i,.pure (by simp[He,g]) λC p j=>by simp only[GA,g];exact j⟩
 ·split at i
  ·rename_i hb;split at i
   ·rename_i hm;have hc1:He h o=1:=by simp[He,g,hm]
    obtain⟨v,I,O⟩:=l8 i;exact⟨_,_,I,⟨λp j=>by simp only[GA,g,hb,hm];exact O H _ rfl j,λe=>Fj,λ_=>⟨rfl,λC p hv j=>by simp only[GA,g,hb,hm];exact O C _ hv j⟩,λe=>Fj,λV=>by simp[S5,g]at V,λe=>Fj⟩⟩
   ·rename_i hm;obtain⟨v,I,O⟩:=rX i;exact⟨_,_,I,.pure (by simp[He,g,hm]) λC p j=>by simp only[GA,g,hb,hm];exact O _ j⟩
  ·exact i.elim
 ·split at i
  ·rename_i J;split at i
   ·rename_i hf;obtain⟨h0,i⟩:=i;split at i
    ·exact⟨_,_,i,.pure (by simp[He,g]) λC p j=>by simp only[GA,g,J,hf];exact⟨h0,j⟩⟩
    ·exact⟨_,_,i,.pure (by simp[He,g]) λC p j=>by simp only[GA,g,J,hf];exact⟨h0,j⟩⟩
    ·exact i.elim
   ·exact i.elim
  ·exact i.elim
 ·split at i
  ·rename_i J;split at i
   ·rename_i hf;split at i
    ·rename_i V;exact⟨_,_,i,.pure (by simp[He,g]) λC p j=>by simp only[GA,g,J,hf,V];exact j⟩
    ·exact i.elim
   ·exact i.elim
  ·exact i.elim
 ·obtain⟨v,hv,i⟩:=i;exact⟨_,_,i,.pure (by simp[He,g]) λC p j=>by simp only[GA,g];exact⟨v,hv,j⟩⟩
 ·split at i
  ·rename_i J;obtain⟨h0,v,I,O,h3,h4⟩:=i;exact⟨_,_,h4,.pure (by simp[He,g]) λC p j=>by simp only[GA,g,J];exact⟨h0,v,I,O,h3,j⟩⟩
  ·rename_i J;obtain⟨h0,I,O,h3,h4⟩:=i;exact⟨_,_,h4,.pure (by simp[He,g]) λC p j=>by simp only[GA,g,J];exact⟨h0,I,O,h3,j⟩⟩
  ·rename_i J;obtain⟨h0,I,O,h4⟩:=i;exact⟨_,_,h4,.pure (by simp[He,g]) λC p j=>by simp only[GA,g,J];exact⟨h0,I,O,j⟩⟩
  ·rename_i J;obtain⟨h0,I,O,h4⟩:=i;exact⟨_,_,h4,.pure (by simp[He,g]) λC p j=>by simp only[GA,g,J];exact⟨h0,I,O,j⟩⟩
  ·exact i.elim
 ·split at i
  ·rename_i J;obtain⟨h0,I,h4⟩:=i;exact⟨_,_,h4,.pure (by simp[He,g]) λC p j=>by simp only[GA,g,J];exact⟨h0,I,j⟩⟩
  ·rename_i J;obtain⟨h0,I,O,v,h3,h4⟩:=i;exact⟨_,_,h4,.pure (by simp[He,g]) λC p j=>by simp only[GA,g,J];exact⟨h0,I,O,v,h3,j⟩⟩
  ·exact i.elim
 ·exact⟨_,_,i,.ext (by simp[He,g]) λp j=>by simp only[GA,g];exact j⟩
 ·exact⟨_,_,i.2,.ext (by simp[He,g]) λp j=>by simp only[GA,g];exact⟨i.1,j⟩⟩
 ·split at i
  ·rename_i J;split at i
   ·rename_i es he;obtain⟨g1,g2,z,g3,g4⟩:=i;exact⟨_,_,g4,.any (by simp[He,g]) λp j=>by simp only[GA,g,J,he];exact⟨g1,g2,z,g3,j⟩⟩
   ·exact i.elim
  ·exact i.elim
 ·split at i
  ·rename_i J;split at i
   ·rename_i es he;obtain⟨g1,g2,g3,g4⟩:=i;exact⟨_,_,g4,.any (by simp[He,g]) λp j=>by simp only[GA,g,J,he];exact⟨g1,g2,g3,j⟩⟩
   ·exact i.elim
  ·exact i.elim
 ·exact absurd (by simp[He,g]) hc4
 ·exact absurd (by simp[He,g]) hc4
 ·exact absurd (by simp[He,g]) hc4
 · -- calls
  rename_i c;obtain⟨callee,args,argTypes⟩:=c;cases callee with
  |invoke r m=>exact i.elim
  | value fo =>
   simp only at i;split at i
   ·split at i
    ·rename_i hp;split at i
     ·rename_i hq;obtain⟨v,T,i⟩:=i;have hc1:He h o=1:=by simp[He,g,hp,hq]
      exact⟨_,_,i,λp j=>by simp only[GA,g,hp,hq];exact⟨v,T,j⟩,λe=>Fj,λ_=>⟨rfl,λC p hv j=>by
       simp only[GA,g,hp,hq];exact⟨v,T.imp (λT H3 h3=>T H3 (h3.trans hv)) (λhx=>Rc.view hv hx),j⟩⟩,λe=>Fj,λV=>by simp[S5,g]at V,λe=>Fj⟩
     ·rename_i hq;obtain⟨v,T,i⟩:=i;exact⟨_,_,i,.pure (by simp[He,g,hp,hq]) λC p j=>by simp only[GA,g,hp,hq];exact⟨v,T,j⟩⟩
    ·rename_i hp;split at i
     ·rename_i hq;obtain⟨v,ext,T,i⟩:=i;exact⟨_,_,i,.ext (by simp[He,g,hp,hq]) λp j=>by simp only[GA,g,hp,hq];exact⟨v,ext,T,j⟩⟩
     ·rename_i hq;exact absurd (by simp[He,g,hp,hq]) hc4
   ·obtain⟨⟨hp,hq⟩,_⟩:=i;exact absurd (by simp[He,g,hp,hq]) hc4
   ·exact i.elim
  | builtin b =>
   cases b<;>simp only at i<;>first|exact i.elim|skip
   case append =>
    split at i
    ·rename_i a b t t' hat
     by_cases htt:t=t'
     case neg =>
      rw[iN htt]at i;obtain⟨hmt,v,H',g1,g2⟩:=AJC i;have hc3:He h o=3:=by simp only[He,g,hmt,Bool.true_or];rfl
      exact⟨_,_,g1,.any hc3 λp j=>by simp only[GA,g,hat,iN htt];exact g2 p j⟩
     rw[iP htt]at i;split at i
     ·rename_i e J;obtain⟨I,O,i⟩:=i;have again:∀(rd:Bool) (C:Fl) (p:AV->Fl->Prop) (xs:List AV),(o.dst.any h.mt.contains||o.dst.any h.tk.contains)=rd->Um P e rd C b=some xs->O4 P e (o.dst.any h.mt.contains) (o.dst.any h.pc.contains) C a xs p->GA P h o [a,b] C p:=by
       intro rd C p xs hrd hs ha;simp only[GA,g,hat,iP htt,J,hrd,hs];exact⟨I,O,ha⟩
      split at i
      ·rename_i xs hs;by_cases hrd:(o.dst.any h.mt.contains||o.dst.any h.tk.contains)=true
       ·have hc3:He h o=3:=by simp only[He,g,hrd];rfl
        obtain⟨g1,i⟩:=i;split at i
        ·rename_i hmt;obtain⟨g2,g3,g4,g5⟩:=i;exact⟨_,_,g5,.any hc3 λp j=>again _ _ _ xs rfl hs ⟨g1,by rw[hmt];exact⟨g2,g3,g4,j⟩⟩⟩
        ·rename_i hmt;obtain⟨g2,g3,g4,g5,i⟩:=i;split at i
         ·rename_i cs ho;obtain⟨g6,g7,g8⟩:=i;exact⟨_,_,g8,.any hc3 λp j=>again _ _ _ xs rfl hs ⟨g1,by rw[hmt];simp only[ho];exact⟨g2,g3,g4,g5,g6,g7,j⟩⟩⟩
         ·exact i.elim
        ·rename_i hmt;obtain⟨g2,g3,g4,g5,i⟩:=i;split at i
         ·rename_i cs ho;obtain⟨g6,g7,g8⟩:=i;exact⟨_,_,g8,.any hc3 λp j=>again _ _ _ xs rfl hs ⟨g1,by rw[hmt];simp only[ho];exact⟨g2,g3,g4,g5,g6,g7,j⟩⟩⟩
         ·exact i.elim
        ·rename_i hmt;obtain⟨g2,g3,g4,g5⟩:=i;exact⟨_,_,g5,.any hc3 λp j=>again _ _ _ xs rfl hs ⟨g1,by rw[hmt];exact⟨g2,g3,g4,j⟩⟩⟩
        ·exact i.elim
       ·have hrd':(o.dst.any h.mt.contains||o.dst.any h.tk.contains)=false:=by simpa using hrd
        have hc0:He h o=0:=by simp only[He,g,hrd'];rfl
        have hmt:o.dst.any h.mt.contains=false:=by
         rw[CF]at hrd';exact hrd'.1
        obtain⟨g1,i⟩:=i;rw[hrd']at hs;have hs2:∀C,Um P e false C b=some xs:=λC=>by
         unfold Um at hs ⊢;split at hs
         ·exact hs
         ·split at hs
          ·rename_i h _;cases h
          ·cases hs
         ·cases hs
        split at i
        ·rename_i U;obtain⟨g2,g3,g4,g5⟩:=i;exact⟨_,_,g5,.pure hc0 λC p j=>again _ _ _ xs hrd' (hs2 C) ⟨g1,by rw[U];exact⟨g2,g3,g4,j⟩⟩⟩
        ·rename_i U;rw[hmt]at U;cases U
        ·rename_i U;rw[hmt]at U;cases U
        ·rename_i U;rw[hmt]at U;cases U
        ·exact i.elim
      ·exact i.elim
     ·exact i.elim
    ·exact i.elim
   case cap =>
    split at i
    ·split at i
     ·rename_i J;exact⟨_,_,i,.pure (by simp[He,g]) λC p j=>by simp only[GA,g,J];exact j⟩
     ·exact i.elim
    ·exact i.elim
   case copy =>
    split at i
    ·rename_i hat
     obtain⟨v,H',g1,g2⟩:=ABX i;exact⟨_,_,g1,.any (by simp[He,g]) λp j=>by simp only[GA,g,hat];exact g2 p j⟩
    ·exact i.elim
   case clear =>
    split at i
    ·rename_i hat
     split at i
     ·rename_i J;split at i
      ·rename_i ho;obtain⟨z,I,O,h3,h4,h5⟩:=i;exact⟨_,_,h5,.any (by simp[He,g]) λp j=>by simp only[GA,g,hat,J,ho];exact⟨z,I,O,h3,h4,j⟩⟩
      ·exact i.elim
     ·exact i.elim
    ·exact i.elim
   case len =>
    split at i
    ·split at i
     ·rename_i J;exact⟨_,_,i,.pure (by simp[He,g]) λC p j=>by simp only[GA,g,J];exact j⟩
     ·rename_i J;exact⟨_,_,i,.pure (by simp[He,g]) λC p j=>by simp only[GA,g,J];exact j⟩
     ·rename_i J;exact⟨_,_,i,.pure (by simp[He,g]) λC p j=>by simp only[GA,g,J];exact j⟩
     ·rename_i J;exact⟨_,_,i,.pure (by simp[He,g]) λC p j=>by simp only[GA,g,J];exact j⟩
     ·rename_i J;exact⟨_,_,i,.pure (by simp[He,g]) λC p j=>by simp only[GA,g,J];exact j⟩
     ·exact i.elim
    ·exact i.elim
   case max =>
    split at i
    ·exact⟨_,_,i.2,.pure (by simp[He,g]) λC p j=>by simp only[GA,g];exact⟨i.1,j⟩⟩
    ·exact i.elim
   case min =>
    split at i
    ·exact⟨_,_,i.2,.pure (by simp[He,g]) λC p j=>by simp only[GA,g];exact⟨i.1,j⟩⟩
    ·exact i.elim
 ·exact i.elim
end
end Go.AI
namespace Go.AI
def KK{o j:List AV}{g:Nat}(h:g+j.length<=o.length)(i:Nat):(splice o g j)[i]? =if g<=i/\i<g+j.length then j[i - g]? else o[i]?:=by
 unfold splice;have p:(o.take g).length=g:=IG;by_cases r:i<g
 ·rw[iN Fj,AF,Aa Fj,By r]
 ·by_cases t:i<g+j.length
  ·rw[iP ⟨Fj,t⟩,AF,AO Fj,p,Aa Fj]
  ·rw[iN Fj,AO IG,AE,p,A4];congr 1;omega
def LD{i j:List AV}{g:Nat}(h:g+j.length<=i.length):(splice i g j).length=i.length:=by
 unfold splice;simp;omega
def iC{p j o:List AV}{f g:Nat}(J:f+j.length<=g\/g+o.length<=f)(C:f+j.length<=p.length)(I:g+o.length<=p.length):
  splice (splice p f j) g o=splice (splice p g o) f j:=by
 apply A6;intro i;rw[KK (by rw[LD C];exact I),KK C,KK (by rw[LD I];exact C),KK I];by_cases r:g<=i/\i<g+o.length
 ·rw[iP r,iN Fj,iP r]
 ·rw[iN r];by_cases t:f<=i/\i<f+j.length
  ·rw[iP t,iP t]
  ·rw[iN t,iN t,iN r]
def ap(P:Program)(t:TypeId):Nat :=
 match P.underlying t with
 |some (.struct _)|some (.array _ _)=>P.cellsOf t
 |_=>1
def XH{P:Program}{t:TypeId}{p o:List AV}{f g:Nat}(j:f+ap P t<=g\/g+o.length<=f)(C:g+o.length<=p.length):Mb P t (splice p g o) f=Mb P t p f:=by
 have agg:∀k,(f+k<=g\/g+o.length<=f)->((splice p g o).drop f).take k=(p.drop f).take k:=by
  intro k O;apply A6;intro i;rw[Ak,Ak];split
  ·rw[A4,A4,KK C,iN Fj]
  ·rfl
 unfold Mb;unfold ap at j;split
 ·rename_i R r;simp only[r]at j;rw[LD C,agg _ j]
 ·rename_i n e r;simp only[r]at j;rw[LD C,agg _ j]
 ·rename_i d I J r;have T:f+1<=g\/g+o.length<=f:=by
   have e:(match some d with|some (TypeDesc.struct _)=>P.cellsOf t|some (TypeDesc.array _ _)=>P.cellsOf t|_=>1)=1:=by
    cases d<;>first|rfl|exact absurd rfl (I _)|exact absurd rfl (J _ _)
   rw[r]at j;rw[e]at j;exact j
  rw[KK C,iN Fj]
 ·rfl
end Go.AI
