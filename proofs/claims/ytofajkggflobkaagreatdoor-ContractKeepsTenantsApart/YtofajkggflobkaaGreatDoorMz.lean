/- Calls that are computed. -/
import Derived.Test.YtofajkggflobkaaGreatDoorMg
import Derived.Test.YtofajkggflobkaaGreatDoorMe
import Derived.Test.YtofajkggflobkaaGreatDoorMf
import Derived.Test.YtofajkggflobkaaGreatDoorMy
import Derived.Test.YtofajkggflobkaaGreatDoorMp
namespace Go.AI
open Go.Proofs
theorem PCall.lendR {P : Program} {f : FuncId} {vs : List AV} {v : AV} (h : PCall P f vs v) : PCall P f vs v.borrow:=fun H =>
 ⟨(h H).1,fun F G w us hc => Calls.mono ((h H).2 F G w us hc) fun e w' he => by
  obtain ⟨u,rfl,v',H2,G',⟨rfl,rfl⟩,hcr,hext⟩:=he
  exact ⟨u,rfl,_,_,G',⟨rfl,rfl⟩,by simpa using hcr.lend,hext⟩⟩
theorem PCall.runB {P : Program} {T : EvT} (E : EvOk P T) (k : Nat) {f : FuncId} {vs : List AV} {v : AV} (hp : pureL vs = true)
  (h : (match runT P T k (.call f vs []) with | some (.val v2 _) => if v2.pure = true then some v2.borrow else none | _ => none) = some v) : PCall P f vs v:=by
 cases hr : runT P T k (.call f vs []) with
 | none => rw [hr] at h; cases h
 | some q =>
  rw [hr] at h
  cases q with
  | st _ _ _ => cases h
  | val v2 H2 =>
   dsimp only at h
   split at h
   ·rename_i hv
    cases h
    exact PCall.lendR (PCall.run E k hp hv (by rw [hr]))
   ·cases h
end Go.AI
namespace Go.AI
open Go.Proofs
set_option maxRecDepth 50000
theorem p_CloneA (es : List AV) (he : ∀ x ∈ es,x.cells.length = 1) (hl : es.length <= 1048576) (H : Heap) : ACall Tryz.prog 31 [.sl none es] H fun v H' => v = .sl (some 1) es /\ H' = H:=by
 have h1 : (0 + es.length) * 8 <= 140737488355328:=by omega
 refine aC h31_k rfl ?_
 cases es with
 | nil => simp only [Tryz.f31,go_sem]
 | cons e es =>
  simp only [Tryz.f31,go_sem]
  simp only [List.length_cons] at hl
  exact ⟨⟨he _ (by simp),fun a ha => he a (by simp [ha])⟩,by omega,by omega⟩
def cloneOrc : Orc:=fun f vs H => bif Nat.beq f 31 then
  match vs with
  | [.sl none es] => bif es.all (fun x => x.cells.length == 1) && Nat.ble es.length 1048576 then some (.sl (some 1) es,H) else none
  | _ => none
 else srtOrc f vs H
theorem cloneOrc_ok : OrcOk Tryz.prog cloneOrc:=by
 intro f vs H v H' h
 unfold cloneOrc at h
 cases hf : Nat.beq f 31 with
 | false => rw [hf] at h; exact srtOrc_ok f vs H v H' h
 | true =>
  rw [hf] at h
  have:=Nat.eq_of_beq_eq_true hf
  subst this
  dsimp only [cond_true] at h
  split at h
  ·rename_i es
   cases h3 : (es.all (fun x => x.cells.length == 1) && Nat.ble es.length 1048576) with
   | false => rw [h3] at h; cases h
   | true =>
    rw [h3] at h
    cases h
    simp only [Bool.and_eq_true,List.all_eq_true,beq_iff_eq] at h3
    exact p_CloneA es h3.1 (Nat.le_of_ble_eq_true h3.2) H
  ·cases h
theorem evOkX : EvOk Tryz.prog (evTree.evt [] cloneOrc):=ETree.ok mixedE (fun _ h => by cases h) cloneOrc_ok evTree_all
end Go.AI
namespace Go.AI
open Go.Proofs
set_option maxRecDepth 100000
def aStr : ByteArray:=⟨#[97,108,112,104,97]⟩
def bStr : ByteArray:=⟨#[98,101,116,97]⟩
def thr : Policy:=⟨4,Pred.z,⟨#[]⟩,0,[⟨1,⟨3,⟨#[112,111,114,116]⟩,0,0,[]⟩,⟨#[]⟩,0,[]⟩,⟨2,Pred.z,⟨#[112,111,114,116]⟩,1,[]⟩]⟩
def ten (n : ByteArray) (k : Int) : Tenant:=⟨n,[⟨⟨#[105,110]⟩,k⟩,⟨⟨#[111,117,116]⟩,k + 1⟩],[],[⟨thr,Stp.z⟩],[],[]⟩
def c19 : Contract:=⟨aStr,bStr,1,0,⟨3,⟨#[100,115,116]⟩,5,0,[]⟩,2,10,3⟩
def d19 : Contract:=⟨bStr,aStr,0,0,⟨1,⟨#[]⟩,0,0,[]⟩,-1,0,0⟩
def net19 : Network:=⟨[⟨⟨#[97]⟩,false,100,100⟩,⟨⟨#[98]⟩,false,100,100⟩,⟨⟨#[99]⟩,true,100,100⟩,⟨⟨#[100]⟩,false,100,100⟩],
  [⟨0,1,10⟩,⟨1,3,10⟩,⟨0,2,10⟩,⟨2,3,10⟩,⟨1,2,10⟩,⟨3,0,10⟩],[⟨⟨#[101]⟩,0⟩,⟨⟨#[102]⟩,1⟩,⟨⟨#[103]⟩,2⟩,⟨⟨#[104]⟩,3⟩]⟩
def s19 : Setup:=⟨net19,[⟨⟨#[100,115,116]⟩,16,8⟩],[ten aStr 0,ten bStr 2],[c19]⟩
def b19 : Setup:={ s19 with contracts:=[c19,d19] }
def hd19 (a b : Int) : Head:={ Head.z with h0:=a,h1:=b }
def dv (t : Int) (h : Head) (ch : List AV) : AV:=.agg (.int .i64 t :: h.c ++ [.sl none ch])
def no2L : List AV:=[.sl none [],.sl none []]
def one19L : List AV:=[dv 0 (hd19 10001 1024) []]
def two19L : List AV:=[dv 1 (hd19 10003 1280) [.int .i64 0]]
def view19 : Setup:=⟨⟨[],[],[⟨⟨#[]⟩,0⟩,⟨⟨#[]⟩,0⟩,⟨⟨#[103]⟩,0⟩,⟨⟨#[104]⟩,0⟩]⟩,s19.fields,[ten bStr 2],[{ c19 with via:=-1 }]⟩
theorem x_check : PCall Tryz.prog 17 [.agg s19.c] (.tup [.int .i64 0,.int .i64 0]):=PCall.runB evOkX 20000 rfl (by kernel_rfl)
theorem x_checkb : PCall Tryz.prog 17 [.agg b19.c] (.tup [.int .i64 0,.int .i64 21]):=PCall.runB evOkX 20000 rfl (by kernel_rfl)
theorem x_owner : PCall Tryz.prog 12 [.agg s19.c,.int .i64 3] (.tup [.int .i64 1,.int .i64 1]):=PCall.runB evOkX 20000 rfl (by kernel_rfl)
theorem x_start : PCall Tryz.prog 18 [.agg s19.c] (.sl none no2L):=PCall.runB evOkX 20000 rfl (by kernel_rfl)
theorem x_run1 : PCall Tryz.prog 6 [.agg s19.c,(.sl none no2L),.agg (hd19 10000 1024).c,.int .i64 0] (.tup [(.sl none one19L),(.sl none no2L),.int .i64 0]):=PCall.runB evOkX 20000 rfl (by kernel_rfl)
theorem x_run2 : PCall Tryz.prog 6 [.agg s19.c,(.sl none no2L),.agg (hd19 10000 1280).c,.int .i64 0] (.tup [(.sl none two19L),(.sl none no2L),.int .i64 0]):=PCall.runB evOkX 20000 rfl (by kernel_rfl)
theorem x_chains : PCall Tryz.prog 9 [.agg s19.c,.int .i64 0,.int .i64 1] (.tup [.sl none [.sl none [.int .i64 0]],.int .i64 0]):=PCall.runB evOkX 20000 rfl (by kernel_rfl)
theorem x_chainsb : PCall Tryz.prog 9 [.agg s19.c,.int .i64 1,.int .i64 0] (.tup [.sl none [],.int .i64 0]):=PCall.runB evOkX 20000 rfl (by kernel_rfl)
theorem x_always : PCall Tryz.prog 19 [.agg s19.c,.int .i64 0,.int .i64 1] (.tup [.sl none [.int .i64 2],.int .i64 0]):=PCall.runB evOkX 20000 rfl (by kernel_rfl)
theorem x_view : PCall Tryz.prog 20 [.agg s19.c,.int .i64 1] (.agg view19.c):=PCall.runB evOkX 20000 rfl (by kernel_rfl)
theorem x_bill0 : PCall Tryz.prog 23 [.agg s19.c,.int .i64 0] (.int .i64 30):=PCall.runB evOkX 20000 rfl (by kernel_rfl)
theorem x_bill1 : PCall Tryz.prog 23 [.agg s19.c,.int .i64 1] (.int .i64 0):=PCall.runB evOkX 20000 rfl (by kernel_rfl)
theorem x_same1 : PCall Tryz.prog 21 [(.sl none one19L),(.sl none one19L)] (.bool true):=PCall.runB evOkX 20000 rfl (by kernel_rfl)
theorem x_same2 : PCall Tryz.prog 21 [(.sl none two19L),(.sl none two19L)] (.bool true):=PCall.runB evOkX 20000 rfl (by kernel_rfl)
theorem x_same3 : PCall Tryz.prog 22 [.sl none [.sl none [.int .i64 0]],.sl none [.sl none [.int .i64 0]]] (.bool true):=PCall.runB evOkX 20000 rfl (by kernel_rfl)
theorem x_same4 : PCall Tryz.prog 11 [.sl none [.int .i64 2],.sl none [.int .i64 2]] (.bool true):=PCall.runB evOkX 20000 rfl (by kernel_rfl)
end Go.AI
namespace Go.AI
open Go.Proofs
set_option maxRecDepth 100000
theorem awp_of_run {P : Program} {T : EvT} (E : EvOk P T) (k : Nat) {hf : FuncId} {h : Hint} {n : Nat} {ar : Option Nat} {c : Code} {Q : Exit -> Kt} {e e' : Env} {H H' : Heap} (hh : T.hs hf = h) (hr : runT P T k (.code hf n ar c e H) = some (.st .normal e' H')) (hq : Q .normal e' H') : awp P n h ar c Q e H:=by
 subst hh
 refine awp_mono c _ _ _ _ (fun ex2 e2 H2 hx => ?_) (show awp P n (T.hs hf) ar c (fun ex2 e2 H2 => ex2 = .normal /\ e2 = e' /\ H2 = H') e H from run_ok E k _ _ hr)
 obtain ⟨rfl,rfl,rfl⟩:=hx
 exact hq
theorem awp_step {P : Program} {T : EvT} (E : EvOk P T) (k : Nat) {hf : FuncId} {h : Hint} {n : Nat} {ar : Option Nat} {a b : Code} {Q : Exit -> Kt} {e e' : Env} {H H' : Heap} (hh : T.hs hf = h) (hr : runT P T k (.code hf n ar a e H) = some (.st .normal e' H')) (hq : awp P n h ar b Q e' H') : awp P n h ar (.seq a b) Q e H :=
 awp_of_run (Q:=seqK (awp P n h ar b Q) Q) E k hh hr hq
noncomputable def sanT : EvT:=evTree.evt [] cloneOrc
noncomputable def sanE (o : Option ROut) : Env:=match o with | some (.st .normal e _) => e | _ => []
noncomputable def sanH (o : Option ROut) : Heap:=match o with | some (.st .normal _ H) => H | _ => []
def flatC : Code -> List Code
 | .seq a b => flatC a ++ flatC b
 | c => [c]
noncomputable def sanC (k : Nat) : Code:=match Tryz.f5.body with
 | some c => ((flatC c)[k]?).getD .skip
 | none => .skip
noncomputable def san (k : Nat) (e : Env) (H : Heap) : Option ROut:=runT Tryz.prog sanT 20000 (.code 5 203 none (sanC k) e H)
noncomputable def r0 : Option ROut:=san 0 [] []
noncomputable def r1 : Option ROut:=san 1 (sanE r0) (sanH r0)
noncomputable def r2 : Option ROut:=san 2 (sanE r1) (sanH r1)
noncomputable def r3 : Option ROut:=san 3 (sanE r2) (sanH r2)
theorem hs6 : sanT.hs 5 = h5:=by kernel_rfl
theorem r3E : sanE r3 = [(1,.ptr 7 0),(2,.ptr 15 0)]:=by kernel_rfl
theorem r3H : (sanH r3)[7]? = some (some s19.c) /\ (sanH r3)[15]? = some (some b19.c) /\ (sanH r3).length = 17:=⟨by kernel_rfl,by kernel_rfl,by kernel_rfl⟩
theorem spl_dv (h : Head) : spliceN [.int .i64 0,.int .i64 0,.int .i64 0,.int .i64 0,.int .i64 0,.int .i64 0,.int .i64 0,.int .i64 0,.int .i64 0,.int .i64 0,.sl (some 1) []] h.c = [.int .i64 h.h0,.int .i64 h.h1,.int .i64 h.h2,.int .i64 h.h3,.int .i64 h.h4,.int .i64 h.h5,.int .i64 h.h6,.int .i64 h.h7,.int .i64 h.h8,.int .i64 h.h9,.sl (some 1) []]:=rfl
theorem spl_dw (a b c d e f g i j k x y : AV) : splice [a,b,c,d,e,f,g,i,j,k,x] 10 [y] = [a,b,c,d,e,f,g,i,j,k,y]:=rfl
theorem spl_dc (x : Delivery) (w p : Option Nat) (n : Int) : splice (x.cf w) 11 [.sl p [.int .i64 n]] = ({ x with chain:=[n] } : Delivery).cf p:=rfl
theorem lapp_cons {α : Type} (a : α) (l r : List α) : List.append (a :: l) r = a :: List.append l r:=rfl
theorem lapp_nil {α : Type} (r : List α) : List.append [] r = r:=rfl
theorem q_set1 (H : Heap) (a b : Option (List AV)) : (H ++ [a]).set H.length b = H ++ [b]:=by rw [List.set_append_right _ _ (by omega),Nat.sub_self]; rfl
theorem q_get1 (H : Heap) (a : Option (List AV)) : (H ++ [a])[H.length]? = some a:=by simp
set_option maxHeartbeats 8000000 in
theorem c_sanity19 : PCall Tryz.prog 5 [] (.bool true):=by
 refine pC h5_k rfl ?_
 simp only [Tryz.f5,argsFrom,lapp_cons,lapp_nil]
 refine awp_step evOkX 20000 (e':=sanE r0) (H':=sanH r0) hs6 (by kernel_rfl) ?_
 refine awp_step evOkX 20000 (e':=sanE r1) (H':=sanH r1) hs6 (by kernel_rfl) ?_
 refine awp_step evOkX 20000 (e':=sanE r2) (H':=sanH r2) hs6 (by kernel_rfl) ?_
 refine awp_step evOkX 20000 (e':=sanE r3) (H':=sanH r3) hs6 (by kernel_rfl) ?_
 rw [r3E]
 obtain ⟨h1,h2,h3⟩:=r3H
 generalize sanH r3 = H at h1 h2 h3 ⊢
 have hlt:=(List.getElem?_eq_some_iff.1 h1).1
 have g1 : ∀ z,(H ++ z)[7]? = some (some s19.c):=fun z => by rw [List.getElem?_append_left hlt]; exact h1
 have gs:=q_set1 H
 have gg:=q_get1 H
 have f1 : ((no2L.length : Int) != 2) = false:=rfl
 have f2 : ((view19.contracts.length : Int) == 1) = true:=rfl
 have f3 : (lContract view19.contracts)[0]? = some (.agg ({ c19 with via:=-1 } : Contract).c):=rfl
 have f4 : (lEdge view19.network.edges)[1]? = some (.agg (Edge.c ⟨⟨#[]⟩,0⟩)):=rfl
 have f5 : (lEdge view19.network.edges)[2]? = some (.agg (Edge.c ⟨⟨#[103]⟩,0⟩)):=rfl
 simp only [go_sem,h1,h2,g1,gs,gg]
 repeat' (first
  | ((first | refine aP (x_check) ?_ | refine aP (x_checkb) ?_ | refine aP (x_owner) ?_ | refine pK (x_start) ?_ | refine aP (x_run1) ?_ | refine aP (x_run2) ?_ | refine aP (x_chains) ?_ | refine aP (x_chainsb) ?_ | refine aP (x_always) ?_ | refine aP (x_view) ?_ | refine aP (x_bill0) ?_ | refine aP (x_bill1) ?_ | refine aP (PCall.weak x_same1) ?_ | refine aP (PCall.weak x_same2) ?_ | refine aP (PCall.weak x_same3) ?_ | refine aP (PCall.weak x_same4) ?_); simp only [go_sem,h1,h2,g1,gs,gg,f1,f2,f3,f4,f5,spl_dv,spl_dw,spl_dc,toList_beq,decide_true,Int.reduceBEq,Int.reduceBNe])
  | ((first | refine cS ?_ ?_ | refine gS ?_ ?_) <;> (intro hc; simp only [go_sem,hc,h1,h2,g1,gs,gg,f1,f2,f3,f4,f5,spl_dv,spl_dw,spl_dc,toList_beq,decide_true,Int.reduceBEq,Int.reduceBNe])))
 exact absurd hc (by decide)
end Go.AI
