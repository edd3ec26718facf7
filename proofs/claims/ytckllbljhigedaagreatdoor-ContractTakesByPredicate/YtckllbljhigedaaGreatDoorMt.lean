/- Contract: checkPorts of the program. -/
import Derived.Test.YtckllbljhigedaaGreatDoorMp
import Derived.Test.YtckllbljhigedaaGreatDoorMe
import Derived.Test.YtckllbljhigedaaGreatDoorMg
import Derived.Test.YtckllbljhigedaaGreatDoorMf
set_option linter.unusedSimpArgs false
set_option linter.unusedVariables false
namespace Go.AI
open Go.Proofs
set_option maxRecDepth 50000
@[go_sem] theorem zmapIB : zeroAV Tryz.prog 112 = some .nilm:=by kernel_rfl
@[go_sem] theorem und_mapIB : Tryz.prog.underlying 112 = some (.map 3 4):=by kernel_rfl
end Go.AI
namespace Go.AI
open Go.Proofs
set_option maxRecDepth 50000
end Go.AI
namespace Go.AI
open Go.Proofs
set_option maxRecDepth 50000
end Go.AI
namespace Go.AI
open Go.Proofs
set_option maxRecDepth 50000
end Go.AI
namespace Go.AI
open Go.Proofs
set_option maxRecDepth 50000
end Go.AI
namespace Go.AI
structure VE where
 v : Variable
 b : Bool
def vNew (l : List Fld) (s : Stp) : Variable:=⟨s.var,famS s.kind,widS l s.key,if numS s then s.n else 0,if numS s then s.m else 0⟩
def vFind (E : List VE) (nm : ByteArray) : Option VE:=E.find? fun e => decide (e.v.name = nm)
def vUpd : List VE -> VE -> List VE
 | [],x => [x]
 | e :: E,x => if e.v.name = x.v.name then x :: E else e :: vUpd E x
def vBad (l : List Fld) (e : VE) (s : Stp) : Bool:=e.v.family != famS s.kind || (!eqI e.v.widths (widS l s.key) || (numS s && (e.b && (e.v.n != s.n || e.v.m != s.m))))
def vStep (l : List Fld) (E : List VE) (s : Stp) : Option (List VE) :=
 if s.kind = 0 then some E else match vFind E s.var with
  | none => some (vUpd E ⟨vNew l s,numS s⟩)
  | some e => if vBad l e s then none else if numS s then some (vUpd E ⟨vNew l s,true⟩) else some E
theorem vFind_upd (x : VE) (nm : ByteArray) : ∀ E : List VE,vFind (vUpd E x) nm = if x.v.name = nm then some x else vFind E nm
 | [] => by
  unfold vUpd vFind
  by_cases h : x.v.name = nm <;> simp [h]
 | e :: E => by
  have ih:=vFind_upd x nm E
  unfold vUpd
  by_cases h : e.v.name = x.v.name
  ·rw [if_pos h]
   unfold vFind
   by_cases h2 : x.v.name = nm
   ·simp [h2]
   ·simp [h2,h]
  ·rw [if_neg h]
   unfold vFind at ih ⊢
   rw [List.find?_cons,List.find?_cons]
   by_cases h2 : e.v.name = nm
   ·have : ¬ x.v.name = nm:=fun h3 => h (h2.trans h3.symm)
    simp [h2,this]
   ·simp only [h2,decide_false]
    exact ih
structure VInv (l : List Fld) (E : List VE) (p : List Stage) : Prop where
 src : ∀ nm e,vFind E nm = some e -> ∃ x ∈ p,x.step.kind ≠ 0 /\ x.step.var = nm
 fits : ∀ x ∈ p,x.step.kind ≠ 0 -> ∃ e,vFind E x.step.var = some e /\ e.v.family = famS x.step.kind /\ e.v.widths = widS l x.step.key /\ (numS x.step = true -> e.b = true /\ e.v.n = x.step.n /\ e.v.m = x.step.m)
 num : ∀ nm e,vFind E nm = some e -> e.b = true -> ∃ x ∈ p,x.step.kind ≠ 0 /\ x.step.var = nm /\ numS x.step = true
theorem VInv.nil (l : List Fld) : VInv l [] []:=⟨fun _ _ h => (by cases h),fun _ h => (by cases h),fun _ _ h => (by cases h)⟩
theorem VInv.step {l : List Fld} {E : List VE} {p : List Stage} (h : VInv l E p) {x : Stage} {E' : List VE} (hs : vStep l E x.step = some E') : VInv l E' (p ++ [x]):=by
 unfold vStep at hs
 split at hs
 ·rename_i hk
  cases hs
  exact ⟨fun nm e he => by obtain ⟨y,hy,h1⟩:=h.src nm e he; exact ⟨y,by simp [hy],h1⟩,
   fun y hy hk2 => by
    rcases List.mem_append.1 hy with hy | hy
    ·exact h.fits y hy hk2
    ·rw [List.mem_singleton.1 hy] at hk2; exact absurd hk hk2,
   fun nm e he hb => by obtain ⟨y,hy,h1⟩:=h.num nm e he hb; exact ⟨y,by simp [hy],h1⟩⟩
 ·rename_i hk
  split at hs
  ·rename_i hf
   cases hs
   refine ⟨fun nm e he => ?_,fun y hy hk2 => ?_,fun nm e he hb => ?_⟩
   ·rw [vFind_upd] at he
    split at he
    ·rename_i hn
     exact ⟨x,by simp,hk,hn⟩
    ·obtain ⟨y,hy,h1⟩:=h.src nm e he; exact ⟨y,by simp [hy],h1⟩
   ·rw [vFind_upd]
    rcases List.mem_append.1 hy with hy | hy
    ·obtain ⟨e,he,h1⟩:=h.fits y hy hk2
     have hne : ¬ (vNew l x.step).name = y.step.var:=fun hn => by
      have hn : x.step.var = y.step.var:=hn
      rw [<- hn,hf] at he; cases he
     exact ⟨e,by rw [if_neg hne]; exact he,h1⟩
    ·rcases List.mem_singleton.1 hy with rfl
     refine ⟨_,if_pos rfl,rfl,rfl,fun hn => ⟨hn, ?_, ?_⟩⟩
     ·simp [vNew,hn]
     ·simp [vNew,hn]
   ·rw [vFind_upd] at he
    split at he
    ·rename_i hn
     cases he
     exact ⟨x,by simp,hk,hn,hb⟩
    ·obtain ⟨y,hy,h1⟩:=h.num nm e he hb; exact ⟨y,by simp [hy],h1⟩
  ·rename_i e0 hf
   split at hs
   ·cases hs
   ·rename_i hb0
    have hb0 : vBad l e0 x.step = false:=by simpa using hb0
    unfold vBad at hb0
    rw [Bool.or_eq_false_iff,Bool.or_eq_false_iff] at hb0
    obtain ⟨b1,b2,b3⟩:=hb0
    have b1 : e0.v.family = famS x.step.kind:=by simpa using b1
    have b2 : e0.v.widths = widS l x.step.key:=by simpa [eqI] using b2
    split at hs
    ·rename_i hnum
     cases hs
     refine ⟨fun nm e he => ?_,fun y hy hk2 => ?_,fun nm e he hb => ?_⟩
     ·rw [vFind_upd] at he
      split at he
      ·rename_i hn
       exact ⟨x,by simp,hk,hn⟩
      ·obtain ⟨y,hy,h1⟩:=h.src nm e he; exact ⟨y,by simp [hy],h1⟩
     ·rw [vFind_upd]
      rcases List.mem_append.1 hy with hy | hy
      ·obtain ⟨e,he,h1,h2,h3⟩:=h.fits y hy hk2
       by_cases hn : (vNew l x.step).name = y.step.var
       ·have hn2 : x.step.var = y.step.var:=hn
        rw [<- hn2,hf] at he
        cases he
        refine ⟨_,if_pos hn, ?_, ?_,fun hny => ?_⟩
        ·show famS x.step.kind = _
         rw [<- b1,h1]
        ·show widS l x.step.key = _
         rw [<- b2,h2]
        ·obtain ⟨g1,g2,g3⟩:=h3 hny
         rw [hnum,g1,g2,g3] at b3
         simp only [Bool.true_and,Bool.or_eq_false_iff,bne_eq_false_iff_eq] at b3
         refine ⟨rfl, ?_, ?_⟩
         ·simp [vNew,hnum,b3.1]
         ·simp [vNew,hnum,b3.2]
       ·exact ⟨e,by rw [if_neg hn]; exact he,h1,h2,h3⟩
      ·rcases List.mem_singleton.1 hy with rfl
       refine ⟨_,if_pos rfl,rfl,rfl,fun hn => ⟨rfl, ?_, ?_⟩⟩
       ·simp [vNew,hn]
       ·simp [vNew,hn]
     ·rw [vFind_upd] at he
      split at he
      ·rename_i hn
       exact ⟨x,by simp,hk,hn,hnum⟩
      ·obtain ⟨y,hy,h1⟩:=h.num nm e he hb; exact ⟨y,by simp [hy],h1⟩
    ·rename_i hnum
     cases hs
     refine ⟨fun nm e he => ?_,fun y hy hk2 => ?_,fun nm e he hb => ?_⟩
     ·obtain ⟨y,hy,h1⟩:=h.src nm e he; exact ⟨y,by simp [hy],h1⟩
     ·rcases List.mem_append.1 hy with hy | hy
      ·exact h.fits y hy hk2
      ·rcases List.mem_singleton.1 hy with rfl
       exact ⟨e0,hf,b1,b2,fun hn => absurd hn hnum⟩
     ·obtain ⟨y,hy,h1⟩:=h.num nm e he hb; exact ⟨y,by simp [hy],h1⟩
end Go.AI
namespace Go.AI
theorem fitGo_all (l : List Fld) : ∀ r : List Pred,fitGo l r = 0 ↔ ∀ x ∈ r,fitP l x = 0
 | [] => by simp [fitGo]
 | x :: r => by
  rw [fitGo]
  by_cases h : fitP l x = 0
  ·rw [if_pos h,fitGo_all l r]; simp [h]
  ·rw [if_neg h]; simp [h]
def goodP (l : List Fld) (x : Pred) : Prop:=fmP x = true /\ ∀ y ∈ ptsP x,fitP l y = 0
end Go.AI
namespace Go.AI
def cmpI : List Int -> List Int -> Int
 | [],[] => 0
 | [],_ :: _ => -1
 | _ :: _,[] => 1
 | x :: a,y :: b => if x < y then -1 else if y < x then 1 else cmpI a b
def cmpH (a b : Head) : Int:=cmpI a.l b.l
def putH (h : Head) : List Head -> List Head
 | [] => [h]
 | x :: r => if cmpH x h < 0 then x :: putH h r else if x = h then x :: r else h :: x :: r
def mergeH (a b : List Head) : List Head:=b.foldl (fun o x => putH x o) a
def imgGo (f : Head -> Option (List Head)) : List Head -> List Head -> Option (List Head)
 | o,[] => some o
 | o,x :: r => match f x with
  | none => none
  | some a => if 256 < (mergeH o a).length then none else imgGo f (mergeH o a) r
def newH (o n : List Head) : List Head:=n.filter fun x => !o.any fun y => decide (y = x)
def cloGo (f : Head -> Option (List Head)) : Nat -> List Head -> List Head -> Option (List Head)
 | 0,_,_ => none
 | k + 1,o,n => if n = [] then some o else match imgGo f [] n with
  | none => none
  | some m => if 256 < (mergeH o (newH o m)).length then none else cloGo f k (mergeH o (newH o m)) (newH o m)
end Go.AI
namespace Go.AI
def wordAt (h : Head) (k : Nat) : Int:=(h.l[k]?).getD 0
def setW (h : Head) (k : Nat) (v : Int) : Head :=
 ⟨if k = 0 then v else h.h0,if k = 1 then v else h.h1,if k = 2 then v else h.h2,if k = 3 then v else h.h3,if k = 4 then v else h.h4,if k = 5 then v else h.h5,if k = 6 then v else h.h6,if k = 7 then v else h.h7,if k = 8 then v else h.h8,if k = 9 then v else h.h9⟩
def okFld (f : Fld) : Prop:=1 <= f.width /\ f.width <= 16 /\ 0 <= f.at_ /\ f.at_ <= 143 /\ f.at_ % 16 + f.width <= 16
def fK (f : Fld) : Nat:=(f.at_ / 16).toNat
def fS (f : Fld) : Nat:=(16 - f.at_ % 16 - f.width).toNat
def fW (f : Fld) : Nat:=f.width.toNat
def getN (f : Fld) (h : Head) : Nat:=(wordAt h (fK f)).toNat / 2 ^ fS f % 2 ^ fW f
def setN (f : Fld) (h : Head) (n : Nat) : Head:=setW h (fK f) ((((wordAt h (fK f)).toNat ^^^ ((wordAt h (fK f)).toNat &&& ((2 ^ fW f - 1) <<< fS f))) ||| (n <<< fS f) : Nat) : Int)
theorem okFld_dims {f : Fld} (h : okFld f) : fK f <= 8 /\ fS f + fW f <= 16 /\ 1 <= fW f:=by
 unfold okFld at h
 unfold fK fS fW
 omega
theorem rightH_word {h : Head} (hr : rightH h = true) (k : Nat) : 0 <= wordAt h k /\ wordAt h k <= 65535:=by
 unfold rightH at hr
 unfold wordAt
 cases hk : h.l[k]? with
 | none => simp
 | some v =>
  have:=List.all_eq_true.1 hr v (List.mem_of_getElem? hk)
  simpa [wordB16] using this
theorem l_setW (h : Head) (k : Nat) (v : Int) : (setW h k v).l = h.l.set k v:=by
 match k with
 | 0 => rfl
 | 1 => rfl
 | 2 => rfl
 | 3 => rfl
 | 4 => rfl
 | 5 => rfl
 | 6 => rfl
 | 7 => rfl
 | 8 => rfl
 | 9 => rfl
 | n + 10 => rfl
theorem rightH_setW {h : Head} (hr : rightH h = true) (k : Nat) {v : Int} (h0 : 0 <= v) (h1 : v <= 65535) : rightH (setW h k v) = true:=by
 unfold rightH at hr ⊢
 rw [l_setW,List.all_eq_true]
 intro x hx
 rcases List.mem_or_eq_of_mem_set hx with hx | rfl
 ·exact List.all_eq_true.1 hr x hx
 ·simp [wordB16,h0,h1]
theorem bits_low {W M : Nat} (hW : W < 65536) (hM : M < 65536) : W ^^^ (W &&& M) < 65536:=Nat.xor_lt_two_pow (n:=16) hW (Nat.and_lt_two_pow _ hM)
theorem set_lt {W s w n : Nat} (hW : W < 65536) (hn : n < 2 ^ w) (hsw : s + w <= 16) : (W ^^^ (W &&& ((2 ^ w - 1) <<< s))) ||| (n <<< s) < 65536:=by
 refine Nat.or_lt_two_pow (n:=16) (Nat.xor_lt_two_pow (n:=16) hW (Nat.lt_of_le_of_lt Nat.and_le_left hW)) ?_
 rw [Nat.shiftLeft_eq]
 calc n * 2 ^ s < 2 ^ w * 2 ^ s:=Nat.mul_lt_mul_of_pos_right hn (Nat.two_pow_pos s)
  _ = 2 ^ (s + w):=by rw [Nat.add_comm,Nat.pow_add]
  _ <= 2 ^ 16:=Nat.pow_le_pow_right (by decide) hsw
end Go.AI
namespace Go.AI
theorem wordAt_setW (h : Head) (k j : Nat) (v : Int) (hk : k < 10) : wordAt (setW h k v) j = if j = k then v else wordAt h j:=by
 unfold wordAt
 rw [l_setW,List.getElem?_set]
 by_cases e : k = j
 ·subst e
  rw [if_pos rfl,if_pos (by simpa [Head.l] using hk),if_pos rfl]; rfl
 ·rw [if_neg e,if_neg (fun c => e c.symm)]
theorem wordAt_z (j : Nat) : wordAt Head.z j = 0:=by
 match j with
 | 0 | 1 | 2 | 3 | 4 | 5 | 6 | 7 | 8 | 9 => rfl
 | n + 10 => rfl
def maskN (w m : Nat) : Nat:=(2 ^ w - 1) ^^^ ((2 ^ w - 1) &&& (2 ^ (w - m) - 1))
theorem maskN_bit (w m j : Nat) : (maskN w m).testBit j = (decide (w - m <= j) && decide (j < w)):=by
 unfold maskN
 rw [Nat.testBit_xor,Nat.testBit_and,Nat.testBit_two_pow_sub_one,Nat.testBit_two_pow_sub_one]
 by_cases h1 : j < w <;> by_cases h2 : j < w - m <;> simp [h1,h2] <;> omega
theorem maskN_lt (w m : Nat) : maskN w m < 2 ^ w:=by
 have : 0 < 2 ^ w:=Nat.two_pow_pos w
 exact Nat.xor_lt_two_pow (by omega) (Nat.lt_of_le_of_lt Nat.and_le_left (by omega))
def patN (f : Fld) (n m : Nat) : Pat:=⟨setN f Head.z (maskN (fW f) m),setN f Head.z (n &&& maskN (fW f) m)⟩
def matchB (p : Pat) (h : Head) : Bool:=(List.range 10).all fun i => (((wordAt p.bits i).toNat ^^^ (wordAt h i).toNat) &&& (wordAt p.mask i).toNat) == 0
theorem setN_z (f : Fld) (hf : okFld f) (v j : Nat) : wordAt (setN f Head.z v) j = if j = fK f then ((v <<< fS f : Nat) : Int) else 0:=by
 have hd:=okFld_dims hf
 unfold setN
 rw [wordAt_setW _ _ _ _ (by omega),wordAt_z,wordAt_z]
 split <;> simp
theorem div_eq_bits {a b w k : Nat} (ha : a < 2 ^ w) (hb : b < 2 ^ w) : a / 2 ^ k = b / 2 ^ k ↔ ∀ j,k <= j -> j < w -> a.testBit j = b.testBit j:=by
 constructor
 ·intro h j h1 _
  have e : j = (j - k) + k:=by omega
  rw [e,<- Nat.testBit_div_two_pow,<- Nat.testBit_div_two_pow,h]
 ·intro h
  apply Nat.eq_of_testBit_eq
  intro i
  rw [Nat.testBit_div_two_pow,Nat.testBit_div_two_pow]
  by_cases hw : i + k < w
  ·exact h _ (by omega) hw
  ·rw [Nat.testBit_lt_two_pow (Nat.lt_of_lt_of_le ha (Nat.pow_le_pow_right (by decide) (by omega))),Nat.testBit_lt_two_pow (Nat.lt_of_lt_of_le hb (Nat.pow_le_pow_right (by decide) (by omega)))]
theorem getN_bit (f : Fld) (h : Head) (j : Nat) (hj : j < fW f) : (getN f h).testBit j = (wordAt h (fK f)).toNat.testBit (fS f + j):=by
 unfold getN
 rw [Nat.testBit_mod_two_pow,Nat.testBit_div_two_pow,Nat.add_comm]
 simp [hj]
theorem getN_lt (f : Fld) (h : Head) : getN f h < 2 ^ fW f:=Nat.mod_lt _ (Nat.two_pow_pos _)
theorem match_pat {f : Fld} (hf : okFld f) {n m : Nat} (hn : n < 2 ^ fW f) (hm : m <= fW f) (h : Head) : matchB (patN f n m) h = decide (getN f h / 2 ^ (fW f - m) = n / 2 ^ (fW f - m)):=by
 have hd:=okFld_dims hf
 rw [Bool.eq_iff_iff,decide_eq_true_eq,div_eq_bits (getN_lt f h) hn]
 unfold matchB patN
 rw [List.all_eq_true]
 constructor
 ·intro hall j h1 h2
  have:=hall (fK f) (by rw [List.mem_range]; omega)
  rw [setN_z f hf,setN_z f hf,if_pos rfl,if_pos rfl,beq_iff_eq,Int.toNat_natCast,Int.toNat_natCast] at this
  have hb : ((((n &&& maskN (fW f) m) <<< fS f) ^^^ (wordAt h (fK f)).toNat) &&& (maskN (fW f) m <<< fS f)).testBit (fS f + j) = false:=by rw [this]; simp
  rw [Nat.testBit_and,Nat.testBit_xor,Nat.testBit_shiftLeft,Nat.testBit_shiftLeft,Nat.testBit_and] at hb
  have e1 : decide (fS f <= fS f + j) = true:=by simp
  have e2 : fS f + j - fS f = j:=by omega
  have e3 : (maskN (fW f) m).testBit j = true:=by rw [maskN_bit]; simp; omega
  rw [e1,e2,e3] at hb
  rw [getN_bit f h j h2]
  simp only [Bool.and_true,Bool.true_and,bne_eq_false_iff_eq] at hb
  exact hb.symm
 ·intro hbits i hi
  rw [setN_z f hf,setN_z f hf]
  by_cases e : i = fK f
  ·subst e
   rw [if_pos rfl,if_pos rfl,beq_iff_eq,Int.toNat_natCast,Int.toNat_natCast]
   apply Nat.eq_of_testBit_eq
   intro i
   rw [Nat.testBit_and,Nat.testBit_xor,Nat.testBit_shiftLeft,Nat.testBit_shiftLeft,Nat.testBit_and,maskN_bit]
   by_cases g0 : fS f <= i
   ·by_cases g1 : fW f - m <= i - fS f /\ i - fS f < fW f
    ·have hb:=hbits (i - fS f) g1.1 g1.2
     rw [getN_bit f h _ g1.2,show fS f + (i - fS f) = i by omega] at hb
     have e1 : decide (fS f <= i) = true:=by simpa using g0
     have e2 : (decide (fW f - m <= i - fS f) && decide (i - fS f < fW f)) = true:=by simp; omega
     rw [hb,e1,e2]
     simp
    ·have : (decide (fW f - m <= i - fS f) && decide (i - fS f < fW f)) = false:=by simp; omega
     rw [this]; simp
   ·simp [g0]
  ·rw [if_neg e,if_neg e]; simp
theorem right_setN {f : Fld} (hf : okFld f) {n : Nat} (hn : n < 2 ^ fW f) {h : Head} (hr : rightH h = true) : rightH (setN f h n) = true:=by
 have hd:=okFld_dims hf
 have hw:=rightH_word hr (fK f)
 have hlt:=set_lt (W:=(wordAt h (fK f)).toNat) (s:=fS f) (w:=fW f) (n:=n) (by omega) hn (by omega)
 unfold setN
 refine rightH_setW hr _ (by omega) ?_
 omega
end Go.AI
namespace Go.AI
open Go.Proofs
set_option maxRecDepth 50000
def andI (x y : Int) : Int:=IntKind.i64.wrap (BitVec.ofInt 64 x &&& BitVec.ofInt 64 y).toNat
def orI (x y : Int) : Int:=IntKind.i64.wrap (BitVec.ofInt 64 x ||| BitVec.ofInt 64 y).toNat
def xorI (x y : Int) : Int:=IntKind.i64.wrap (BitVec.ofInt 64 x ^^^ BitVec.ofInt 64 y).toNat
def clrI (x y : Int) : Int:=IntKind.i64.wrap (BitVec.ofInt 64 x &&& ~~~ BitVec.ofInt 64 y).toNat
section
variable {P : Program} {t : TypeId} {k : IntKind} {x y : Int} {d : Tmp} {K : Kt} {e : Env} {H : Heap}
@[go_sem] theorem binK_andK : binK P .and t (.int .i64 x) (.int .i64 y) d K e H = K ((d,.int .i64 (andI x y)) :: e) H:=by
 rw [binK_int]; exact propext ⟨fun h => h.2,fun h => ⟨rfl,h⟩⟩
@[go_sem] theorem binK_orK : binK P .or t (.int .i64 x) (.int .i64 y) d K e H = K ((d,.int .i64 (orI x y)) :: e) H:=by
 rw [binK_int]; exact propext ⟨fun h => h.2,fun h => ⟨rfl,h⟩⟩
@[go_sem] theorem binK_xorK : binK P .xor t (.int .i64 x) (.int .i64 y) d K e H = K ((d,.int .i64 (xorI x y)) :: e) H:=by
 rw [binK_int]; exact propext ⟨fun h => h.2,fun h => ⟨rfl,h⟩⟩
@[go_sem] theorem binK_clrK : binK P .andNot t (.int .i64 x) (.int .i64 y) d K e H = K ((d,.int .i64 (clrI x y)) :: e) H:=by
 rw [binK_int]; exact propext ⟨fun h => h.2,fun h => ⟨rfl,h⟩⟩
@[go_sem] theorem binK_shrK : binK P .shr t (.int .i64 x) (.int k y) d K e H = (0 <= y /\ K ((d,.int .i64 (x.fdiv (2 ^ (min y.toNat 64)))) :: e) H):=by
 rw [binK_int]; rfl
end
theorem ofInt_nat (a : Nat) : BitVec.ofInt 64 (a : Int) = BitVec.ofNat 64 a:=by
 apply BitVec.eq_of_toInt_eq; simp
theorem andI_nat {a b : Nat} (ha : a < 9223372036854775808) (hb : b < 9223372036854775808) : andI a b = ((a &&& b : Nat) : Int):=by
 have h1 : a &&& b < 2 ^ 63:=Nat.and_lt_two_pow _ (by omega)
 unfold andI
 rw [ofInt_nat,ofInt_nat,BitVec.toNat_and,BitVec.toNat_ofNat,BitVec.toNat_ofNat,Nat.mod_eq_of_lt (by omega),Nat.mod_eq_of_lt (by omega)]
 exact w64 (by omega) (by omega)
theorem orI_nat {a b : Nat} (ha : a < 9223372036854775808) (hb : b < 9223372036854775808) : orI a b = ((a ||| b : Nat) : Int):=by
 have h1 : a ||| b < 2 ^ 63:=Nat.or_lt_two_pow (by omega) (by omega)
 unfold orI
 rw [ofInt_nat,ofInt_nat,BitVec.toNat_or,BitVec.toNat_ofNat,BitVec.toNat_ofNat,Nat.mod_eq_of_lt (by omega),Nat.mod_eq_of_lt (by omega)]
 exact w64 (by omega) (by omega)
theorem xorI_nat {a b : Nat} (ha : a < 9223372036854775808) (hb : b < 9223372036854775808) : xorI a b = ((a ^^^ b : Nat) : Int):=by
 have h1 : a ^^^ b < 2 ^ 63:=Nat.xor_lt_two_pow (by omega) (by omega)
 unfold xorI
 rw [ofInt_nat,ofInt_nat,BitVec.toNat_xor,BitVec.toNat_ofNat,BitVec.toNat_ofNat,Nat.mod_eq_of_lt (by omega),Nat.mod_eq_of_lt (by omega)]
 exact w64 (by omega) (by omega)
theorem clrI_nat {a b : Nat} (ha : a < 9223372036854775808) (hb : b < 9223372036854775808) : clrI a b = ((a ^^^ (a &&& b) : Nat) : Int):=by
 have h1 : a ^^^ (a &&& b) < 2 ^ 63:=Nat.xor_lt_two_pow (by omega) (Nat.and_lt_two_pow _ (by omega))
 have e : (BitVec.ofNat 64 a &&& ~~~ BitVec.ofNat 64 b) = BitVec.ofNat 64 a ^^^ (BitVec.ofNat 64 a &&& BitVec.ofNat 64 b):=by
  generalize BitVec.ofNat 64 a = u
  generalize BitVec.ofNat 64 b = v
  ext i hi
  simp only [BitVec.getElem_and,BitVec.getElem_not,BitVec.getElem_xor]
  cases u[i] <;> cases v[i] <;> rfl
 unfold clrI
 rw [ofInt_nat,ofInt_nat,e,BitVec.toNat_xor,BitVec.toNat_and,BitVec.toNat_ofNat,BitVec.toNat_ofNat,Nat.mod_eq_of_lt (by omega),Nat.mod_eq_of_lt (by omega)]
 exact w64 (by omega) (by omega)
theorem shr_nat {a s : Nat} (hs : s <= 64) : (a : Int).fdiv (2 ^ min s 64) = ((a / 2 ^ s : Nat) : Int):=by
 rw [Nat.min_eq_left hs,Int.fdiv_eq_ediv_of_nonneg _ (Int.pow_nonneg (by decide))]
 push_cast; rfl
theorem Head.c_at (h : Head) {k : Nat} (hk : k < 10) : h.c[k]? = some (.int .i64 (wordAt h k)):=by
 match k,hk with
 | 0,_ | 1,_ | 2,_ | 3,_ | 4,_ | 5,_ | 6,_ | 7,_ | 8,_ | 9,_ => rfl
theorem Head.c_set (h : Head) {k : Nat} (hk : k < 10) (v : Int) : splice h.c k [.int .i64 v] = (setW h k v).c:=by
 match k,hk with
 | 0,_ | 1,_ | 2,_ | 3,_ | 4,_ | 5,_ | 6,_ | 7,_ | 8,_ | 9,_ => rfl
theorem fdims {f : Fld} (hf : okFld f) : IntKind.i64.wrap (f.at_.tdiv 16) = (fK f : Int) /\ f.at_.tmod 16 = f.at_ % 16 /\ IntKind.i64.wrap (IntKind.i64.wrap (16 - f.at_ % 16) - f.width) = (fS f : Int):=by
 have h:=hf
 unfold okFld at h
 have e1 : f.at_.tdiv 16 = f.at_ / 16:=Int.tdiv_eq_ediv_of_nonneg (by omega)
 have e2 : f.at_.tmod 16 = f.at_ % 16:=Int.tmod_eq_emod_of_nonneg (by omega)
 refine ⟨?_,e2, ?_⟩
 ·rw [e1,w64 (by omega) (by omega)]; unfold fK; omega
 ·rw [w64 (n:=16 - f.at_ % 16) (by omega) (by omega),w64 (by omega) (by omega)]; unfold fS; omega
theorem p_shift (f : Fld) (hf : okFld f) : PCall Tryz.prog 114 [.agg f.c] (.int .i64 (fS f)):=by
 obtain ⟨d1,d2,d3⟩:=fdims hf
 have g16 : ¬((16 : Int) = 0):=by decide
 refine pC h114_k rfl ?_
 simp only [Tryz.f114,go_sem,d2,d3,g16]
theorem maxF_ok {f : Fld} (hf : okFld f) : maxF f = ((2 ^ fW f - 1 : Nat) : Int):=by
 have h:=hf
 unfold okFld at h
 have hp : ∀ n : Nat,n <= 16 -> powW n = ((2 ^ n : Nat) : Int):=by
  intro n
  induction n with
  | zero => intro _; rfl
  | succ n ih =>
   intro hn
   rw [powW,ih (by omega)]
   have : 2 ^ n <= 2 ^ 16:=Nat.pow_le_pow_right (by decide) (by omega)
   unfold i64
   rw [Nat.pow_succ]
   generalize 2 ^ n = z at this ⊢
   rw [w64 (by omega) (by omega)]
   exact (Int.natCast_mul _ _).symm
 unfold maxF
 rw [hp _ (by omega)]
 have h1 : 2 ^ f.width.toNat <= 2 ^ 16:=Nat.pow_le_pow_right (by decide) (by omega)
 have h2 : 0 < 2 ^ f.width.toNat:=Nat.two_pow_pos _
 unfold i64 fW
 rw [w64 (by omega) (by omega)]
 omega
theorem p_fGet (f : Fld) (hf : okFld f) (h : Head) (hr : rightH h = true) : PCall Tryz.prog 57 [.agg f.c,.agg h.c] (.int .i64 (getN f h)):=by
 obtain ⟨d1,d2,d3⟩:=fdims hf
 have hd:=okFld_dims hf
 have hw:=rightH_word hr (fK f)
 have i0 : (0 : Int) <= (fK f : Int):=by omega
 have i1 : (fK f : Int) < ((10 : Nat) : Int):=by omega
 have i2:=Head.c_at h (show fK f < 10 by omega)
 obtain ⟨W,hW⟩ : ∃ W : Nat,wordAt h (fK f) = (W : Int):=⟨(wordAt h (fK f)).toNat,by omega⟩
 have hM : 2 ^ fW f <= 2 ^ 16:=Nat.pow_le_pow_right (by decide) (by omega)
 have hD : W / 2 ^ fS f <= W:=Nat.div_le_self _ _
 have g16 : ¬((16 : Int) = 0):=by decide
 have g0 : (0 : Int) <= (fS f : Int):=by omega
 have c1:=p_shift f hf
 have c2:=p_Max f (by have:=hf; unfold okFld at this; omega) (by have:=hf; unfold okFld at this; omega)
 have e1 : (W : Int).fdiv (2 ^ min (fS f) 64) = ((W / 2 ^ fS f : Nat) : Int):=shr_nat (by omega)
 have e2 : andI ((W / 2 ^ fS f : Nat) : Int) ((2 ^ fW f - 1 : Nat) : Int) = (getN f h : Nat):=by
  rw [andI_nat (by omega) (by omega),Nat.and_two_pow_sub_one_eq_mod]
  unfold getN; rw [hW,Int.toNat_natCast]
 rw [maxF_ok hf] at c2
 rw [hW] at i2
 refine pC h57_k rfl ?_
 simp only [Tryz.f57,go_sem,d1,d2,d3,i0,i1,i2,g16,Int.toNat_natCast]
 repeat' (first
  | ((first | refine pK (c1) ?_ | refine pK (c2) ?_); simp only [go_sem,d1,d2,d3,i0,i1,i2,g16,g0,e1,e2,Int.toNat_natCast])
  | ((first | refine cS ?_ ?_ | refine gS ?_ ?_) <;> (intro hc; simp only [go_sem,hc,d1,d2,d3,i0,i1,i2,g16,g0,e1,e2,Int.toNat_natCast])))
theorem p_fSet (f : Fld) (hf : okFld f) (h : Head) (hr : rightH h = true) (n : Nat) (hn : n < 2 ^ fW f) : PCall Tryz.prog 113 [.agg f.c,.agg h.c,.int .i64 n] (.agg (setN f h n).c):=by
 obtain ⟨d1,d2,d3⟩:=fdims hf
 have hd:=okFld_dims hf
 have hw:=rightH_word hr (fK f)
 have i0 : (0 : Int) <= (fK f : Int):=by omega
 have i1 : (fK f : Int) < ((10 : Nat) : Int):=by omega
 have i2:=Head.c_at h (show fK f < 10 by omega)
 obtain ⟨W,hW⟩ : ∃ W : Nat,wordAt h (fK f) = (W : Int):=⟨(wordAt h (fK f)).toNat,by omega⟩
 have hM : 2 ^ fW f <= 2 ^ 16:=Nat.pow_le_pow_right (by decide) (by omega)
 have g16 : ¬((16 : Int) = 0):=by decide
 have g0 : (0 : Int) <= (fS f : Int):=by omega
 have c1:=p_shift f hf
 have c2:=p_Max f (by have:=hf; unfold okFld at this; omega) (by have:=hf; unfold okFld at this; omega)
 have hsh : ∀ x,x < 2 ^ fW f -> x <<< fS f < 65536:=by
  intro x hx
  rw [Nat.shiftLeft_eq]
  calc x * 2 ^ fS f < 2 ^ fW f * 2 ^ fS f:=Nat.mul_lt_mul_of_pos_right hx (Nat.two_pow_pos _)
   _ = 2 ^ (fS f + fW f):=by rw [Nat.add_comm,Nat.pow_add]
   _ <= 2 ^ 16:=Nat.pow_le_pow_right (by decide) (by omega)
 have hp : 0 < 2 ^ fW f:=Nat.two_pow_pos _
 have hk9 : fK f <= 9:=by omega
 have s1:=hsh (2 ^ fW f - 1) (by omega)
 have s2:=hsh n hn
 have hshl : ∀ x : Nat,x <<< fS f < 65536 -> IntKind.i64.wrap ((x : Int) * 2 ^ (min (fS f) 64)) = ((x <<< fS f : Nat) : Int):=by
  intro x hx
  have e : min (fS f) 64 = fS f:=Nat.min_eq_left (by omega)
  have e2 : (x : Int) * 2 ^ (min (fS f) 64) = ((x <<< fS f : Nat) : Int):=by
   rw [e,Nat.shiftLeft_eq]; push_cast; rfl
  rw [e2]
  generalize x <<< fS f = z at hx ⊢
  exact w64 (by omega) (by omega)
 have e1:=hshl _ s1
 have e2:=hshl _ s2
 have e3 : clrI (W : Int) (((2 ^ fW f - 1) <<< fS f : Nat) : Int) = ((W ^^^ (W &&& ((2 ^ fW f - 1) <<< fS f)) : Nat) : Int):=clrI_nat (by omega) (by omega)
 have hlow : W ^^^ (W &&& ((2 ^ fW f - 1) <<< fS f)) < 2 ^ 16:=bits_low (by omega) (by omega)
 have e4 : orI ((W ^^^ (W &&& ((2 ^ fW f - 1) <<< fS f)) : Nat) : Int) ((n <<< fS f : Nat) : Int) = (((W ^^^ (W &&& ((2 ^ fW f - 1) <<< fS f))) ||| (n <<< fS f) : Nat) : Int):=orI_nat (by omega) (by omega)
 have e5 : splice h.c (fK f) [.int .i64 (((W ^^^ (W &&& ((2 ^ fW f - 1) <<< fS f))) ||| (n <<< fS f) : Nat) : Int)] = (setN f h n).c:=by
  rw [Head.c_set h (by omega)]; unfold setN; rw [hW,Int.toNat_natCast]
 rw [maxF_ok hf] at c2
 rw [hW] at i2
 refine pC h113_k rfl ?_
 simp only [Tryz.f113,go_sem,d1,d2,d3,i0,i1,i2,g16,Int.toNat_natCast]
 repeat' (first
  | ((first | refine pK (c1) ?_ | refine pK (c2) ?_); simp only [go_sem,d1,d2,d3,i0,i1,i2,g16,g0,e1,e2,e3,e4,e5,hk9,Int.toNat_natCast])
  | ((first | refine cS ?_ ?_ | refine gS ?_ ?_) <;> (intro hc; simp only [go_sem,hc,d1,d2,d3,i0,i1,i2,g16,g0,e1,e2,e3,e4,e5,hk9,Int.toNat_natCast])))
end Go.AI
namespace Go.AI
open Go.Proofs
set_option maxRecDepth 50000
theorem p_Prefix (f : Fld) (hf : okFld f) (n m : Nat) (hn : n < 2 ^ fW f) (hm : m <= fW f) : PCall Tryz.prog 56 [.agg f.c,.int .i64 n,.int .i64 m] (.agg (patN f n m).c):=by
 have h:=hf
 unfold okFld at h
 have hw : f.width = (fW f : Int):=by unfold fW; omega
 have hd:=okFld_dims hf
 have hz : rightH Head.z = true:=by decide
 have hM : 2 ^ fW f <= 2 ^ 16:=Nat.pow_le_pow_right (by decide) (by omega)
 have hM2 : 2 ^ (fW f - m) <= 2 ^ 16:=Nat.pow_le_pow_right (by decide) (by omega)
 have hp : 0 < 2 ^ (fW f - m):=Nat.two_pow_pos _
 have hmk:=maskN_lt (fW f) m
 have hnm : n &&& maskN (fW f) m < 2 ^ fW f:=Nat.lt_of_le_of_lt Nat.and_le_left hn
 have c1:=p_Max f (by omega) (by omega)
 rw [maxF_ok hf] at c1
 have c2:=p_fSet f hf Head.z hz (maskN (fW f) m) hmk
 have c3:=p_fSet f hf Head.z hz (n &&& maskN (fW f) m) hnm
 have g0 : (0 : Int) <= ((fW f - m : Nat) : Int):=by omega
 have e1 : IntKind.i64.wrap (f.width - (m : Int)) = ((fW f - m : Nat) : Int):=by rw [w64 (by omega) (by omega)]; omega
 have e2 : IntKind.i64.wrap (1 * 2 ^ (min (fW f - m) 64)) = ((2 ^ (fW f - m) : Nat) : Int):=by
  rw [Nat.min_eq_left (by omega)]
  have : (1 : Int) * 2 ^ (fW f - m) = ((2 ^ (fW f - m) : Nat) : Int):=by rw [Int.one_mul]; push_cast; rfl
  rw [this]
  generalize 2 ^ (fW f - m) = z at hM2 ⊢
  exact w64 (by omega) (by omega)
 have e3 : IntKind.i64.wrap (((2 ^ (fW f - m) : Nat) : Int) - 1) = ((2 ^ (fW f - m) - 1 : Nat) : Int):=by
  generalize 2 ^ (fW f - m) = z at hM2 hp ⊢
  rw [w64 (by omega) (by omega)]; omega
 have e4 : clrI ((2 ^ fW f - 1 : Nat) : Int) ((2 ^ (fW f - m) - 1 : Nat) : Int) = (maskN (fW f) m : Nat):=by
  rw [clrI_nat (by omega) (by omega)]; rfl
 have e5 : andI (n : Int) ((maskN (fW f) m : Nat) : Int) = ((n &&& maskN (fW f) m : Nat) : Int):=andI_nat (by omega) (by omega)
 refine pC h56_k rfl ?_
 simp only [Tryz.f56,go_sem,e1,Int.toNat_natCast]
 repeat' (first
  | ((first | refine pK (c1) ?_ | refine pK (c2) ?_ | refine pK (c3) ?_); simp only [go_sem,e1,e2,e3,e4,e5,g0,Int.toNat_natCast])
  | ((first | refine cS ?_ ?_ | refine gS ?_ ?_) <;> (intro hc; simp only [go_sem,hc,e1,e2,e3,e4,e5,g0,Int.toNat_natCast])))
 rfl
theorem p_Equal (f : Fld) (hf : okFld f) (n : Nat) (hn : n < 2 ^ fW f) : PCall Tryz.prog 55 [.agg f.c,.int .i64 n] (.agg (patN f n (fW f)).c):=by
 have h:=hf
 unfold okFld at h
 have hw : f.width = (fW f : Int):=by unfold fW; omega
 have c1:=p_Prefix f hf n (fW f) hn (Nat.le_refl _)
 refine pC h55_k rfl ?_
 simp only [Tryz.f55,go_sem,hw]
 repeat' (first
  | (refine pK (c1) ?_; simp only [go_sem,hw])
  | ((first | refine cS ?_ ?_ | refine gS ?_ ?_) <;> (intro hc; simp only [go_sem,hc,hw])))
theorem Pat.mask_at (p : Pat) {k : Nat} (hk : k < 10) : p.c[k]? = some (.int .i64 (wordAt p.mask k)):=by
 match k,hk with
 | 0,_ | 1,_ | 2,_ | 3,_ | 4,_ | 5,_ | 6,_ | 7,_ | 8,_ | 9,_ => rfl
theorem Pat.bits_at (p : Pat) {k : Nat} (hk : k < 10) : p.c[10 + k]? = some (.int .i64 (wordAt p.bits k)):=by
 match k,hk with
 | 0,_ | 1,_ | 2,_ | 3,_ | 4,_ | 5,_ | 6,_ | 7,_ | 8,_ | 9,_ => rfl
theorem p_Match (p : Pat) (hm : rightH p.mask = true) (hb : rightH p.bits = true) (h : Head) (hr : rightH h = true) : PCall Tryz.prog 54 [.agg p.c,.agg h.c] (.bool (matchB p h)):=by
 refine pC h54_k rfl ?_
 simp only [Tryz.f54,go_sem]
 refine awp_all (List.range 10) (fun r => r.all fun i => (((wordAt p.bits i).toNat ^^^ (wordAt h i).toNat) &&& (wordAt p.mask i).toNat) == 0) (fun k => [(2,.ptr 0 0),(3,.ptr 1 0),(6,.int .i64 k)]) (by decide) rfl ?_ ?_
 ·intro k y ys hd hx hF h0 h1 hw
  have hk : k < 10:=by
   have:=(List.getElem?_eq_some_iff.1 hx).1
   simpa using this
  have hy : y = k:=by
   have:=hx
   rw [List.getElem?_range hk] at this
   exact (Option.some.inj this).symm
  subst hy
  have i0 : (0 : Int) <= (y : Int):=by omega
  have i1 : (y : Int) < ((10 : Nat) : Int):=by omega
  have a1:=Pat.mask_at p hk
  have a2:=Pat.bits_at p hk
  have a3:=Head.c_at h hk
  have w1:=rightH_word hm y
  have w2:=rightH_word hb y
  have w3:=rightH_word hr y
  obtain ⟨A,hA⟩ : ∃ W : Nat,wordAt p.mask y = (W : Int):=⟨(wordAt p.mask y).toNat,by omega⟩
  obtain ⟨B,hB⟩ : ∃ W : Nat,wordAt p.bits y = (W : Int):=⟨(wordAt p.bits y).toNat,by omega⟩
  obtain ⟨C,hC⟩ : ∃ W : Nat,wordAt h y = (W : Int):=⟨(wordAt h y).toNat,by omega⟩
  rw [hA] at a1 w1
  rw [hB] at a2 w2
  rw [hC] at a3 w3
  have hx1 : B ^^^ C < 2 ^ 16:=Nat.xor_lt_two_pow (by omega) (by omega)
  have e1 : xorI (B : Int) (C : Int) = ((B ^^^ C : Nat) : Int):=xorI_nat (by omega) (by omega)
  have e2 : andI ((B ^^^ C : Nat) : Int) (A : Int) = (((B ^^^ C) &&& A : Nat) : Int):=andI_nat (by omega) (by omega)
  have i2 : (y : Int) < 10:=by omega
  have eq : ((((wordAt p.bits y).toNat ^^^ (wordAt h y).toNat) &&& (wordAt p.mask y).toNat) == 0) = !(((((B ^^^ C) &&& A : Nat) : Int)) != 0):=by
   rw [hA,hB,hC,Int.toNat_natCast,Int.toNat_natCast,Int.toNat_natCast]
   generalize (B ^^^ C) &&& A = z
   cases z <;> rfl
  rw [List.all_cons,eq] at hF
  simp only [go_sem,h0,h1,i0,i1,i2,decide_true,Int.toNat_natCast,a1,a2,a3,e1,e2]
  repeat' (first
   | ((first | refine cS ?_ ?_ | refine gS ?_ ?_) <;> (intro hc; simp only [go_sem,hc,h0,h1,hw,i0,i1,i2,decide_true,Int.toNat_natCast,a1,a2,a3,e1,e2])))
  ·rw [hc] at hF
   exact congrArg AV.bool (hF.trans rfl).symm
  ·rw [List.all_cons,eq,hc]; rfl
 ·intro hF hlt
  have g : decide (((10 : Nat) : Int) < 10) = false:=by decide
  simp only [go_sem,List.length_range,g]
  exact congrArg AV.bool (hF.trans rfl).symm
end Go.AI
namespace Go.AI
open Go.Proofs
set_option maxRecDepth 50000
end Go.AI
namespace Go.AI
def fnth (fs : List (Head -> Bool)) (k : Nat) (h : Head) : Bool:=((fs[k]?).map fun f => f h).getD false
def onth (fs : List (Head -> Option (List Head))) (k : Nat) (h : Head) : Option (List Head):=((fs[k]?).map fun f => f h).getD none
def stepP (l : List Fld) (t k : Int) (f : ByteArray) (n m : Int) (fs : List (Head -> Bool)) (h : Head) : Bool :=
 if k = 1 then true else if k = 2 then false else if k = 9 then decide (n <= t) && decide (t < m)
 else if k = 6 then !fnth fs 0 h else if k = 7 then fnth fs 0 h && fnth fs 1 h else if k = 8 then fnth fs 0 h || fnth fs 1 h
 else if k = 3 then decide ((getN (findF l f).1 h : Int) = n)
 else if k = 4 then decide (getN (findF l f).1 h / 2 ^ (fW (findF l f).1 - m.toNat) = n.toNat / 2 ^ (fW (findF l f).1 - m.toNat))
 else decide (n <= getN (findF l f).1 h) && decide ((getN (findF l f).1 h : Int) <= m)
mutual
def hP (l : List Fld) (t : Int) : Pred -> Head -> Bool
 | ⟨k,f,n,m,xs⟩ => stepP l t k f n m (hPs l t xs)
def hPs (l : List Fld) (t : Int) : List Pred -> List (Head -> Bool)
 | [] => []
 | x :: r => hP l t x :: hPs l t r
end
theorem hP_eq (l : List Fld) (t : Int) (x : Pred) : hP l t x = stepP l t x.kind x.field x.n x.m (hPs l t x.args):=by cases x; rw [hP]
theorem hPs_eq (l : List Fld) (t : Int) : ∀ r : List Pred,hPs l t r = r.map (hP l t)
 | [] => by rw [hPs]; rfl
 | x :: r => by rw [hPs,hPs_eq l t r]; rfl
theorem hPs_at (l : List Fld) (t : Int) {r : List Pred} {k : Nat} {x : Pred} (hx : r[k]? = some x) (h : Head) : fnth (hPs l t r) k h = hP l t x h:=by
 rw [hPs_eq,fnth,List.getElem?_map,hx]; rfl
def bndO (r : List Head) : Option (List Head):=if 256 < r.length then none else some r
def stepO (l : List Fld) (t k : Int) (p : Pred) (f : ByteArray) (n : Int) (fs : List (Head -> Option (List Head))) (h : Head) : Option (List Head) :=
 if k = 1 then some (if hP l t p h then [h] else [])
 else if k = 2 then some [setN (findF l f).1 h n.toNat]
 else if k = 3 then match onth fs 0 h,onth fs 1 h with
  | some a,some b => bndO (mergeH a b)
  | _,_ => none
 else if k = 4 then match onth fs 0 h with
  | some a => imgGo (onth fs 1) [] a
  | none => none
 else cloGo (onth fs 0) 300 [h] [h]
mutual
def vO (l : List Fld) (t : Int) : Policy -> Head -> Option (List Head)
 | ⟨k,p,f,n,xs⟩ => stepO l t k p f n (vOs l t xs)
def vOs (l : List Fld) (t : Int) : List Policy -> List (Head -> Option (List Head))
 | [] => []
 | x :: r => vO l t x :: vOs l t r
end
def okFs (l : List Fld) : Prop:=∀ f ∈ l,okFld f
theorem okFld_port : okFld fldPort:=by unfold okFld fldPort; decide
theorem okFld_find {l : List Fld} (hl : okFs l) {s : ByteArray} (h : (findF l s).2 = true) : okFld (findF l s).1:=by
 unfold findF at h ⊢
 split
 ·exact okFld_port
 ·rename_i hs
  rw [if_neg hs] at h
  cases hf : l.find? (fun f => decide (f.name = s)) with
  | none => rw [hf] at h; cases h
  | some f => exact hl f (List.mem_of_find?_eq_some hf)
end Go.AI
namespace Go.AI
open Go.Proofs
set_option maxRecDepth 50000
end Go.AI
namespace Go.AI
theorem goodP_arg {l : List Fld} {x y : Pred} (hx : goodP l x) (hy : y ∈ x.args) : goodP l y:=by
 obtain ⟨h1,h2⟩:=hx
 rw [fmP_eq,Bool.and_eq_true] at h1
 have hf : ∀ r : List Pred,fmPs r = true -> ∀ z ∈ r,fmP z = true:=by
  intro r
  induction r with
  | nil => intro _ z hz; cases hz
  | cons a r ih =>
   intro h z hz
   rw [fmPs_cons,Bool.and_eq_true] at h
   rcases List.mem_cons.1 hz with rfl | hz
   ·exact h.1
   ·exact ih h.2 z hz
 refine ⟨hf _ h1.2 y hy,fun z hz => h2 z ?_⟩
 have hs : ∀ r : List Pred,y ∈ r -> z ∈ ptsPs r:=by
  intro r
  induction r with
  | nil => intro h; cases h
  | cons a r ih =>
   intro h
   rw [ptsPs_cons]
   rcases List.mem_cons.1 h with rfl | h
   ·exact List.mem_append_left _ hz
   ·exact List.mem_append_right _ (ih h)
 rw [ptsP_eq]
 exact List.mem_cons_of_mem _ (hs _ hy)
def fldP (l : List Fld) (x : Pred) : Prop:=(findF l x.field).2 = true /\ okFld (findF l x.field).1 /\ 0 <= x.n /\ x.n.toNat < 2 ^ fW (findF l x.field).1
theorem maxF_val {f : Fld} (hf : okFld f) : maxF f = ((2 ^ fW f - 1 : Nat) : Int):=by
 have h:=hf
 unfold okFld at h
 have : ∀ k : Nat,k < 17 -> i64 (powW k - 1) = ((2 ^ k - 1 : Nat) : Int):=by decide
 exact this _ (by omega)
theorem goodP_kind {l : List Fld} (hl : okFs l) {x : Pred} (hx : goodP l x) :
  (x.kind = 1) \/ (x.kind = 2) \/ (x.kind = 9) \/ (x.kind = 6 /\ ∃ a,x.args = [a] /\ goodP l a) \/ ((x.kind = 7 \/ x.kind = 8) /\ ∃ a b,x.args = [a,b] /\ goodP l a /\ goodP l b) \/
  (x.kind = 3 /\ fldP l x) \/ (x.kind = 4 /\ fldP l x /\ 0 <= x.m /\ x.m.toNat <= fW (findF l x.field).1) \/ (x.kind = 5 /\ (findF l x.field).2 = true /\ okFld (findF l x.field).1 /\ 0 <= x.n /\ x.n <= x.m /\ x.m.toNat < 2 ^ fW (findF l x.field).1):=by
 have hfit:=hx.2 x (by rw [ptsP_eq]; simp)
 have harg:=fun y hy => goodP_arg (y:=y) hx hy
 have hfm:=hx.1
 rw [fmP_eq,Bool.and_eq_true,Bool.and_eq_true,beq_iff_eq] at hfm
 obtain ⟨⟨hok,hlen⟩,_⟩:=hfm
 unfold okP at hok hlen
 unfold fitP at hfit
 by_cases k1 : x.kind = 1
 ·exact .inl k1
 by_cases k2 : x.kind = 2
 ·exact .inr (.inl k2)
 rw [if_neg (by simp [k1,k2])] at hok hlen
 by_cases k3 : x.kind = 3
 ·rw [if_pos k3] at hok
  rw [if_neg (by simp [k3])] at hfit
  by_cases hf : (findF l x.field).2 = false
  ·rw [if_pos hf] at hfit; cases hfit
  ·rw [if_neg hf,if_neg (by omega : ¬ x.kind = 5)] at hfit
   have hft : (findF l x.field).2 = true:=by simpa using hf
   have hfo:=okFld_find hl hft
   rw [maxF_val hfo] at hfit
   have hp:=Nat.two_pow_pos (fW (findF l x.field).1)
   simp [w16] at hok
   refine .inr (.inr (.inr (.inr (.inr (.inl ⟨k3,hft,hfo,hok.2.1.1, ?_⟩)))))
   split at hfit
   ·cases hfit
   ·omega
 rw [if_neg k3] at hok hlen
 by_cases k4 : x.kind = 4
 ·rw [if_pos k4] at hok
  rw [if_neg (by simp [k4])] at hfit
  by_cases hf : (findF l x.field).2 = false
  ·rw [if_pos hf] at hfit; cases hfit
  ·rw [if_neg hf,if_neg (by omega : ¬ x.kind = 5)] at hfit
   have hft : (findF l x.field).2 = true:=by simpa using hf
   have hfo:=okFld_find hl hft
   have hfo':=hfo
   unfold okFld at hfo'
   rw [maxF_val hfo] at hfit
   have hp:=Nat.two_pow_pos (fW (findF l x.field).1)
   have hW : fW (findF l x.field).1 = (findF l x.field).1.width.toNat:=rfl
   simp [w16] at hok
   refine .inr (.inr (.inr (.inr (.inr (.inr (.inl ⟨k4,⟨hft,hfo,hok.2.1.1, ?_⟩,hok.2.2.1, ?_⟩))))))
   ·split at hfit
    ·cases hfit
    ·omega
   ·split at hfit
    ·cases hfit
    ·omega
 rw [if_neg k4] at hok hlen
 by_cases k5 : x.kind = 5
 ·rw [if_pos k5] at hok
  rw [if_neg (by simp [k5])] at hfit
  by_cases hf : (findF l x.field).2 = false
  ·rw [if_pos hf] at hfit; cases hfit
  ·rw [if_neg hf,if_pos k5] at hfit
   have hft : (findF l x.field).2 = true:=by simpa using hf
   have hfo:=okFld_find hl hft
   rw [maxF_val hfo] at hfit
   have hp:=Nat.two_pow_pos (fW (findF l x.field).1)
   simp at hok
   refine .inr (.inr (.inr (.inr (.inr (.inr (.inr ⟨k5,hft,hfo,hok.2.1,hok.2.2.1, ?_⟩))))))
   split at hfit
   ·cases hfit
   ·omega
 rw [if_neg k5] at hok hlen
 by_cases k6 : x.kind = 6
 ·rw [if_pos k6] at hlen
  refine .inr (.inr (.inr (.inl ⟨k6, ?_⟩)))
  match hxa : x.args,hlen with
  | [a],_ => exact ⟨a,rfl,harg a (by rw [hxa]; simp)⟩
 rw [if_neg k6] at hok hlen
 by_cases k7 : x.kind = 7 \/ x.kind = 8
 ·rw [if_pos k7] at hlen
  refine .inr (.inr (.inr (.inr (.inl ⟨k7, ?_⟩))))
  match hxa : x.args,hlen with
  | [a,b],_ => exact ⟨a,b,rfl,harg a (by rw [hxa]; simp),harg b (by rw [hxa]; simp)⟩
 rw [if_neg k7] at hok hlen
 by_cases k9 : x.kind = 9
 ·exact .inr (.inr (.inl k9))
 rw [if_neg k9] at hok
 cases hok
end Go.AI
namespace Go.AI
open Go.Proofs
set_option maxRecDepth 50000
end Go.AI
namespace Go.AI
open Go.Proofs
set_option maxRecDepth 50000
def resO : Option (List Head) -> AV
 | some r => .tup [.sl none (lHead r),.int .i64 0]
 | none => .tup [.sl none [],.int .i64 2]
@[go_sem] theorem resO_pure (o : Option (List Head)) : (resO o).pure = true:=by
 cases o <;> simp [resO,AV.pure,pureL,go_sem]
@[go_sem] theorem resO_some (r : List Head) : resO (some r) = .tup [.sl none (lHead r),.int .i64 0]:=rfl
@[go_sem] theorem resO_none : resO none = .tup [.sl none [],.int .i64 2]:=rfl
end Go.AI
namespace Go.AI
open Go.Proofs
set_option maxRecDepth 50000
def resC : Option (List Head) -> Int -> AV
 | some r,n => .tup [.sl none (lHead r),.int .i64 n,.int .i64 0]
 | none,_ => .tup [.sl none [],.int .i64 0,.int .i64 2]
@[go_sem] theorem resC_pure (o : Option (List Head)) (n : Int) : (resC o n).pure = true:=by
 cases o <;> simp [resC,AV.pure,pureL,go_sem]
end Go.AI
namespace Go.AI
end Go.AI
namespace Go.AI
open Go.Proofs
set_option maxRecDepth 50000
@[go_sem] theorem resC_some (r : List Head) (n : Int) : resC (some r) n = .tup [.sl none (lHead r),.int .i64 n,.int .i64 0]:=rfl
@[go_sem] theorem resC_none (n : Int) : resC none n = .tup [.sl none [],.int .i64 0,.int .i64 2]:=rfl
end Go.AI
namespace Go.AI
open Go.Proofs
set_option maxRecDepth 50000
end Go.AI
namespace Go.AI
end Go.AI
namespace Go.AI
inductive RchH (f : Head -> Option (List Head)) (x : Head) : Head -> Prop
 | refl : RchH f x x
 | step {y z : Head} {b : List Head} : RchH f x y -> f y = some b -> z ∈ b -> RchH f x z
theorem RchH.trans {f : Head -> Option (List Head)} {x y z : Head} (h1 : RchH f x y) (h2 : RchH f y z) : RchH f x z:=by
 induction h2 with
 | refl => exact h1
 | step _ h3 h4 ih => exact ih.step h3 h4
theorem RchH.closed {f : Head -> Option (List Head)} {S : Head -> Prop} (hS : ∀ x,S x -> ∀ b,f x = some b -> ∀ z ∈ b,S z) {x z : Head} (hx : S x) (h : RchH f x z) : S z:=by
 induction h with
 | refl => exact hx
 | step _ h3 h4 ih => exact hS _ ih _ h3 _ h4
end Go.AI
