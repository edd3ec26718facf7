/- Contracts: contract.Always. -/
import Derived.Test.YtnbekihfchfioaaGreatDoorMx
import Derived.Test.YtnbekihfchfioaaGreatDoorMt
set_option linter.unusedSimpArgs false
set_option linter.unusedVariables false
open List renaming take_add_one->BF,take_length->BO
namespace Go.AI
open Go.Proofs
set_option maxRecDepth 50000
section
variable {P:Program} {t kt et:TypeId} {K:Kt} {e:Ee} {H:DM} {d:Tmp} {o:Nat} {l:List (Int×Int)}
end
@[go_sem] theorem AY8(k:Nat)(l:List Int):EZ k (E4 l)=true:=E7.2 λc hc=>by
 obtain ⟨p,_,rfl⟩:=List.mem_map.1 hc;rfl
end Go.AI
namespace Go.AI
open Go.Proofs
set_option maxRecDepth 50000
theorem AGK{α:Type}{A B:List α}{k:Nat}{x y:α}(hx:A[k]? =some x)(hy:B[k]? =some y)(h : ¬ x=y): ¬ A=B:=by
 rintro rfl
 rw [hx] at hy;cases hy;exact h rfl
theorem ACZ{α:Type}{A B:List α}{k:Nat}{x:α}(h:A.take k=B.take k)(hx:A[k]? =some x)(hy:B[k]? =some x):A.take (k+1)=B.take (k+1):=by
 rw [BF,BF,h,hx,hy]
theorem xB{α:Type}{A B:List α}(h:A.take A.length=B.take A.length)(hl:A.length=B.length):A=B:=by
 rw [BO,hl,BO] at h;exact h
theorem AZH{b:Bool}{p:Prop}(hb:b=true↔p)(h : ¬ p):b=false:=by
 cases b with
 | false=>rfl
 | true=>exact absurd (hb.1 rfl) h
theorem AZG{b:Bool}{p:Prop}(hb:b=true↔p)(h:p):b=true:=hb.2 h
theorem pU(a c:List Int)(b:Bool)(hb:b=true↔a=c)(ha:a.length<=1073741824):DR Tryz.prog 26 [.sl none (E4 a),.sl none (E4 c)] (.bool b):=by
 have ea:(E4 a).length=a.length:=F6 a
 have ec:(E4 c).length=c.length:=F6 c
 refine pC AVy rfl ?_
 simp only [Tryz.f26,go_sem,ea,ec]
 repeat' (first
  | ((first|apply cS|apply gS)<;>(intro hc;simp only [go_sem,hc,ea,ec])))
 all_goals first
  | (rw [AZH hb (by rintro rfl;simp_all)];done)
  | skip
 have l0:a.length=c.length:=by simp_all;omega
 refine Ed a (λ(_:Unit) (_:List Int)=>()) (λk _=>a.take k=c.take k) (λk _=>[(0,.sl none (E4 a)),(1,.sl none (E4 c)),(5,.int .i64 k)]) (λ_ _=>[]) () DF rfl rfl rfl ?_ ?_
 ·intro k _ x xs hd hx hI _ h0 h1 hw
  obtain ⟨y,hy⟩ : ∃ y,c[k]? =some y:=⟨_,List.getElem?_eq_getElem (by have:=(List.getElem?_eq_some_iff.1 hx).1;omega)⟩
  simp only [go_sem,h0,h1,ea,E1 hx,E1 hy]
  repeat' (first
   | ((first|apply cS|apply gS)<;>(intro hc;simp only [go_sem,hc,hw])))
  ·have hxy : ¬ x=y:=by simpa using hc
   rw [AZH hb (λe=>AGK hx hy hxy (by rw [e]))]
  ·have hxy:x=y:=by simpa using hc
   subst hxy
   exact ⟨(),ACZ hI hx hy⟩
 ·intro _ hI _
  have hA:=xB hI DF
  simp only [go_sem,ea,Int.lt_irrefl,decide_false]
  rw [AZG hb hA]
end Go.AI
