/- Abstract values for Go data, and what it means that the model's value and memory are described by one. No program in sight. -/
import Derived.WalkKit
import Derived.Orders
import Derived.OrdersIn
import Derived.TacticsIn
import Derived.RangeFuncIn
import Derived.RangeFuncRecord
set_option linter.unusedSimpArgs false
set_option linter.unusedVariables false
namespace Go.AI
structure LoopRec where
 tag : Nat
 ps : Array Tmp
 assign : Code
 body : Code
inductive AV where
 | undef
 | int (k : IntKind) (n : Int)
 | bool (b : Bool)
 | str (s : ByteArray)
 | nilp
 | ptr (o off : Nat)
 | cptr (cs : List AV) (off : Nat)
 | sl (own : Option Nat) (es : List AV)
 | msl (o off len sz : Nat)
 | mslc (o off len sz cap : Nat)
 | fn (f : Fn) (first captured : List AV)
 | nilf
 | mapr (o : Nat)
 | nilm
 | it (o : Nat)
 | yld (o : Nat) (L : LoopRec)
 | ifc (t : TypeId) (a : AV)
 | nili
 | agg (cs : List AV)
 | tup (vs : List AV)
 deriving Inhabited
def AV.cells : AV -> List AV
 | .agg cs => cs
 | v => [v]
def AV.flat : AV -> List AV
 | .tup vs => vs.flatMap AV.cells
 | v => v.cells
def AV.scalar : AV -> Bool
 | .undef | .agg _ | .tup _ => false
 | _ => true
def AV.isVal : AV -> Bool
 | .undef | .tup _ => false
 | _ => true
def borrow1 : AV -> AV
 | .sl _ es => .sl none es
 | v => v
def borrow0 : AV -> AV
 | .agg cs => .agg (cs.map borrow1)
 | .sl _ es => .sl none es
 | v => v
def AV.borrow : AV -> AV
 | .tup vs => .tup (vs.map borrow0)
 | v => borrow0 v
inductive Kind where
 | imm
 | obj
 | buf (p : Nat)
 | map
 | iter
 | loop (L : LoopRec)
def Kind.sp : Kind -> Bool
 | .map | .iter | .loop _ => true
 | _ => false
structure Gh where
 obs : List Nat
 kind : Nat -> Kind
def Gh.safe (G : Gh) (b o : Nat) : Prop :=
 match G.kind b with
 | .imm => True
 | .buf p => o < p
 | _ => False
def cat (es : List AV) : List AV:=es.flatMap AV.cells
inductive VRel (G : Gh) (w : World) : AV -> Value -> Prop where
 | undef (v : Value) : VRel G w .undef v
 | int (k : IntKind) (n : Int) : VRel G w (.int k n) (.int k n)
 | bool (b : Bool) : VRel G w (.bool b) (.bool b)
 | str (s : ByteArray) : VRel G w (.str s) (.string s)
 | nilp : VRel G w .nilp (.pointer none)
 | ptr (o off b : Nat) (h : G.obs[o]? = some b) (hc : ∃ (C : Array Value) (E : TypeId),w.heap[b]? = some (.cells C E (0,0))) : VRel G w (.ptr o off) (.pointer (some ⟨b,off,none⟩))
 | cptr (cs : List AV) (off b q : Nat) (u : Nat -> Value)
   (h : ∀ (i : Nat) (c : AV),cs[i]? = some c -> c.scalar = true /\ G.safe b (q + i) /\ w.cell? ⟨b,q + i,none⟩ = some (u i))
   (hu : ∀ (i : Nat) (c : AV),cs[i]? = some c -> VRel G w c (u i)) : VRel G w (.cptr cs off) (.pointer (some ⟨b,q + off,none⟩))
 | slnil (own : Option Nat) : VRel G w (.sl own []) (.slice none 0 0)
 | slany (own : Option Nat) (a : Addr) : VRel G w (.sl own []) (.slice (some a) 0 0)
 | sl (own : Option Nat) (es : List AV) (sz b q cap : Nat) (u : Nat -> Value)
   (hsz : ∀ e ∈ es,e.cells.length = sz) (hown : ∀ n,own = some n -> n = sz /\ 0 < n) (hl : es.length <= cap) (hm : cap <= maxLen)
   (h : ∀ (i : Nat) (c : AV),(cat es)[i]? = some c -> c.scalar = true /\ G.safe b (q + i) /\ w.cell? ⟨b,q + i,none⟩ = some (u i))
   (hu : ∀ (i : Nat) (c : AV),(cat es)[i]? = some c -> VRel G w c (u i)) : VRel G w (.sl own es) (.slice (some ⟨b,q,none⟩) es.length cap)
 | msl (o off len sz b cap : Nat) (h : G.obs[o]? = some b) (hl : len <= cap) (hm : cap <= maxLen)
   (hc : ∃ (C : Array Value) (E : TypeId),w.heap[b]? = some (.cells C E (0,0)) /\ off + cap * sz <= C.size) : VRel G w (.msl o off len sz) (.slice (some ⟨b,off,none⟩) len cap)
 | mslc (o off len sz cap b : Nat) (h : G.obs[o]? = some b) (hl : len <= cap) (hm : cap <= maxLen)
   (hc : ∃ (C : Array Value) (E : TypeId),w.heap[b]? = some (.cells C E (0,0)) /\ off + cap * sz <= C.size) : VRel G w (.mslc o off len sz cap) (.slice (some ⟨b,off,none⟩) len cap)
 | fn (f : Fn) (first captured : List AV) (fi ca : Array Value) (h1 : first.length = fi.size) (h2 : captured.length = ca.size)
   (h3 : ∀ (i : Nat) (c : AV) (v : Value),first[i]? = some c -> fi[i]? = some v -> VRel G w c v) (h4 : ∀ (i : Nat) (c : AV) (v : Value),captured[i]? = some c -> ca[i]? = some v -> VRel G w c v) :
   VRel G w (.fn f first captured) (.func f fi ca)
 | nilf : VRel G w .nilf .nilFunc
 | mapr (o b : Nat) (h : G.obs[o]? = some b) (hb : b < w.heap.size) (hk : G.kind b = .map) : VRel G w (.mapr o) (.map (some b))
 | nilm : VRel G w .nilm (.map none)
 | it (o b : Nat) (h : G.obs[o]? = some b) (hb : b < w.heap.size) (hk : G.kind b = .iter) : VRel G w (.it o) (.pointer (some ⟨b,0,none⟩))
 | yld (o b : Nat) (L : LoopRec) (h : G.obs[o]? = some b) (hb : b < w.heap.size) (hk : G.kind b = .loop L) : VRel G w (.yld o L) (.func (.yield b) #[] #[])
 | ifc (t : TypeId) (a : AV) (v : Value) (hs : a.isVal = true) (h : VRel G w a v) : VRel G w (.ifc t a) (.iface t v)
 | nili : VRel G w .nili .nilIface
 | agg (cs : List AV) (vs : Array Value) (hl : cs.length = vs.size) (hs : ∀ c ∈ cs,c.scalar = true)
   (h : ∀ (i : Nat) (c : AV) (v : Value),cs[i]? = some c -> vs[i]? = some v -> VRel G w c v) : VRel G w (.agg cs) (.agg vs)
 | tup (cs : List AV) (vs : Array Value) (hl : cs.length = vs.size) (hs : ∀ c ∈ cs,c.isVal = true)
   (h : ∀ (i : Nat) (c : AV) (v : Value),cs[i]? = some c -> vs[i]? = some v -> VRel G w c v) : VRel G w (.tup cs) (.tuple vs)
structure Keeps (G : Gh) (w : World) (G' : Gh) (w' : World) : Prop where
 obs : ∀ (o b : Nat),G.obs[o]? = some b -> G'.obs[o]? = some b
 shape : ∀ (b : Nat) (C : Array Value) (E : TypeId),w.heap[b]? = some (.cells C E (0,0)) -> ∃ C' : Array Value,w'.heap[b]? = some (.cells C' E (0,0)) /\ C'.size = C.size
 sp : ∀ b : Nat,b < w.heap.size -> (G.kind b).sp = true -> b < w'.heap.size /\ G'.kind b = G.kind b
 safe : ∀ (b o : Nat) (v : Value),G.safe b o -> w.cell? ⟨b,o,none⟩ = some v -> G'.safe b o /\ w'.cell? ⟨b,o,none⟩ = some v
theorem Keeps.refl (G : Gh) (w : World) : Keeps G w G w:=⟨fun _ _ h => h,fun _ C _ h => ⟨C,h,rfl⟩,fun _ h _ => ⟨h,rfl⟩,fun _ _ _ h1 h2 => ⟨h1,h2⟩⟩
theorem Keeps.trans {G G' G'' : Gh} {w w' w'' : World} (h : Keeps G w G' w') (h' : Keeps G' w' G'' w'') : Keeps G w G'' w'' :=
 ⟨fun o b hb => h'.obs o b (h.obs o b hb),fun b C E hb => by
   obtain ⟨C',h1,h2⟩:=h.shape b C E hb
   obtain ⟨C'',h3,h4⟩:=h'.shape b C' E h1
   exact ⟨C'',h3,h4.trans h2⟩,fun b hb hs =>
   let ⟨h1,h2⟩:=h.sp b hb hs
   let ⟨h3,h4⟩:=h'.sp b h1 (by rw [h2]; exact hs)
   ⟨h3,h4.trans h2⟩,fun b o v h1 h2 => let ⟨a,c⟩:=h.safe b o v h1 h2; h'.safe b o v a c⟩
theorem VRel.keep {G G' : Gh} {w w' : World} (hk : Keeps G w G' w') {a : AV} {v : Value} (h : VRel G w a v) : VRel G' w' a v:=by
 induction h with
 | undef v => exact .undef v
 | int k n => exact .int k n
 | bool b => exact .bool b
 | str s => exact .str s
 | nilp => exact .nilp
 | ptr o off b h hc =>
  obtain ⟨C,E,h1⟩:=hc
  obtain ⟨C',h2,_⟩:=hk.shape b C E h1
  exact .ptr o off b (hk.obs o b h) ⟨C',E,h2⟩
 | cptr cs off b q u h hu ih => exact .cptr cs off b q u (fun i c hi => ⟨(h i c hi).1,hk.safe b _ _ (h i c hi).2.1 (h i c hi).2.2⟩) ih
 | slnil own => exact .slnil own
 | slany own a => exact .slany _ a
 | sl own es sz b q cap u hsz hown hl hm h hu ih =>
  exact .sl own es sz b q cap u hsz hown hl hm (fun i c hi => ⟨(h i c hi).1,hk.safe b _ _ (h i c hi).2.1 (h i c hi).2.2⟩) ih
 | msl o off len sz b cap h hl hm hc =>
  obtain ⟨C,E,h1,h2⟩:=hc
  obtain ⟨C',h3,h4⟩:=hk.shape b C E h1
  exact .msl o off len sz b cap (hk.obs o b h) hl hm ⟨C',E,h3,by omega⟩
 | mslc o off len sz cap b h hl hm hc =>
  obtain ⟨C,E,h1,h2⟩:=hc
  obtain ⟨C',h3,h4⟩:=hk.shape b C E h1
  exact .mslc o off len sz cap b (hk.obs o b h) hl hm ⟨C',E,h3,by omega⟩
 | fn f first captured fi ca h1 h2 h3 h4 ih1 ih2 => exact .fn f first captured fi ca h1 h2 ih1 ih2
 | nilf => exact .nilf
 | mapr o b h hb h2 => obtain ⟨h3,h4⟩:=hk.sp b hb (by rw [h2]; rfl); exact .mapr o b (hk.obs o b h) h3 (h4.trans h2)
 | nilm => exact .nilm
 | it o b h hb h2 => obtain ⟨h3,h4⟩:=hk.sp b hb (by rw [h2]; rfl); exact .it o b (hk.obs o b h) h3 (h4.trans h2)
 | yld o b L h hb h2 => obtain ⟨h3,h4⟩:=hk.sp b hb (by rw [h2]; rfl); exact .yld o b L (hk.obs o b h) h3 (h4.trans h2)
 | ifc t a v hs h ih => exact .ifc t a v hs ih
 | nili => exact .nili
 | agg cs vs hl hs h ih => exact .agg cs vs hl hs ih
 | tup cs vs hl hs h ih => exact .tup cs vs hl hs ih
theorem VRel.borrow1 {G : Gh} {w : World} {a : AV} {v : Value} (h : VRel G w a v) : VRel G w (borrow1 a) v:=by
 cases h with
 | slnil own => exact .slnil none
 | slany own a => exact .slany _ a
 | sl own es sz b q cap u hsz hown hl hm h hu => exact .sl none es sz b q cap u hsz (fun n hn => by cases hn) hl hm h hu
 | cptr cs off b q u h hu => exact .cptr cs off b q u h hu
 | _ => constructor <;> assumption
theorem scalar_borrow1 (a : AV) : (Go.AI.borrow1 a).scalar = a.scalar:=by cases a <;> rfl
theorem VRel.borrow0 {G : Gh} {w : World} {a : AV} {v : Value} (h : VRel G w a v) : VRel G w (borrow0 a) v:=by
 cases h with
 | slnil own => exact .slnil none
 | slany own a => exact .slany _ a
 | sl own es sz b q cap u hsz hown hl hm h hu => exact .sl none es sz b q cap u hsz (fun n hn => by cases hn) hl hm h hu
 | agg cs vs hl hs h =>
  refine .agg _ vs (by simpa using hl) (fun c hc => ?_) (fun i c u hi hv => ?_)
  ·obtain ⟨d,hd,rfl⟩:=List.mem_map.1 hc
   rw [scalar_borrow1]; exact hs d hd
  ·rw [List.getElem?_map] at hi
   cases hci : cs[i]? with
   | none => rw [hci] at hi; cases hi
   | some d => rw [hci] at hi; cases hi; exact (h i d u hci hv).borrow1
 | cptr cs off b q u h hu => exact .cptr cs off b q u h hu
 | _ => constructor <;> assumption
theorem isVal_borrow0 (a : AV) : (Go.AI.borrow0 a).isVal = a.isVal:=by cases a <;> rfl
theorem VRel.borrow {G : Gh} {w : World} {a : AV} {v : Value} (h : VRel G w a v) : VRel G w a.borrow v:=by
 cases h with
 | tup cs vs hl hs h =>
  refine .tup _ vs (by simpa using hl) (fun c hc => ?_) (fun i c u hi hv => ?_)
  ·obtain ⟨d,hd,rfl⟩:=List.mem_map.1 hc
   rw [isVal_borrow0]; exact hs d hd
  ·rw [List.getElem?_map] at hi
   cases hci : cs[i]? with
   | none => rw [hci] at hi; cases hi
   | some d => rw [hci] at hi; cases hi; exact (h i d u hci hv).borrow0
 | slnil own => exact (VRel.slnil own).borrow0
 | slany own a => exact .slany _ a
 | sl own es sz b q cap u hsz hown hl hm h hu => exact (VRel.sl own es sz b q cap u hsz hown hl hm h hu).borrow0
 | agg cs vs hl hs h => exact (VRel.agg cs vs hl hs h).borrow0
 | cptr cs off b q u h hu => exact .cptr cs off b q u h hu
 | _ => constructor <;> assumption
end Go.AI
namespace Go.AI
def litV : AV -> Option Value
 | .str s => some (.string s)
 | .int k n => some (.int k n)
 | .bool b => some (.bool b)
 | _ => none
def words : List ByteArray:=[⟨#[97,110,100]⟩,⟨#[97,110,121]⟩,⟨#[97,116]⟩,⟨#[98,97,99,107]⟩,⟨#[98,111,120]⟩,⟨#[98,117,114,115,116]⟩,⟨#[98,121]⟩,⟨#[99,97,112,97,99,105,116,121]⟩,⟨#[99,101,105,108,105,110,103]⟩,⟨#[99,104,101,99,107]⟩,⟨#[99,111,110,116,114,97,99,116]⟩,⟨#[99,111,117,110,116]⟩,⟨#[100,101,109,97,110,100]⟩,⟨#[100,114,111,112]⟩,⟨#[101,97,99,104]⟩,⟨#[101,100,103,101]⟩,⟨#[101,110,116,114,105,101,115]⟩,⟨#[102,97,108,115,101]⟩,⟨#[102,105,101,108,100]⟩,⟨#[102,108,111,111,114]⟩,⟨#[102,114,111,109]⟩,⟨#[105,100]⟩,⟨#[105,110]⟩,⟨#[105,110,110,101,114]⟩,⟨#[105,110,116,111]⟩,⟨#[108,105,110,107]⟩,⟨#[110,101,116,119,111,114,107]⟩,⟨#[110,111,100,101]⟩,⟨#[110,111,116]⟩,⟨#[111,112,101,110]⟩,⟨#[111,114]⟩,⟨#[112,97,116,104]⟩,⟨#[112,111,114,116]⟩,⟨#[112,114,105,99,101]⟩,⟨#[114,111,117,116,101]⟩,⟨#[114,117,108,101,115]⟩,⟨#[115,116,97,103,101]⟩,⟨#[116,97,107,101]⟩,⟨#[116,101,110,97,110,116]⟩,⟨#[116,104,101,110]⟩,⟨#[116,105,109,101]⟩,⟨#[116,111]⟩,⟨#[116,111,107,101,110]⟩,⟨#[116,114,97,110,115,108,97,116,101]⟩,⟨#[116,114,117,101]⟩,⟨#[118,105,97]⟩,⟨#[119,105,100,116,104]⟩,⟨#[119,105,114,101]⟩,⟨#[119,105,116,104,105,110]⟩]
def glb : List (Nat × List AV):=[(0,words.map AV.str)]
def GOk (G : Gh) (w : World) : Prop:=∀ (g : Nat) (cs : List AV),glb.lookup g = some cs -> ∀ (i : Nat) (c : AV),cs[i]? = some c -> G.safe g i /\ ∃ u,litV c = some u /\ w.cell? ⟨g,i,none⟩ = some u
theorem GOk.keep {G G' : Gh} {w w' : World} (h : GOk G w) (hk : Keeps G w G' w') : GOk G' w':=fun g cs hg i c hc =>
 let ⟨h1,u,h2,h3⟩:=h g cs hg i c hc
 let ⟨a,b⟩:=hk.safe g i u h1 h3
 ⟨a,u,h2,b⟩
theorem GOk.same {G G' : Gh} {w : World} (h : GOk G w) (hk : G'.kind = G.kind) : GOk G' w:=fun g cs hg i c hc =>
 let ⟨h1,u,h2,h3⟩:=h g cs hg i c hc
 ⟨by unfold Gh.safe at *; rw [hk]; exact h1,u,h2,h3⟩
theorem GOk.vrel {G : Gh} {w : World} (h : GOk G w) {g : Nat} {cs : List AV} (hg : glb.lookup g = some cs) : VRel G w (.cptr cs 0) (.pointer (some ⟨g,0,none⟩)):=by
 refine .cptr cs 0 g 0 (fun i => ((cs[i]?).bind litV).getD Go.undef) (fun i c hc => ?_) (fun i c hc => ?_)
 ·obtain ⟨h1,u,h2,h3⟩:=h g cs hg i c hc
  refine ⟨?_,by rw [Nat.zero_add]; exact h1,by rw [Nat.zero_add,hc]; simp [h2,h3]⟩
  cases c <;> first | rfl | cases h2
 ·obtain ⟨h1,u,h2,h3⟩:=h g cs hg i c hc
  rw [hc]
  simp only [Option.bind_some,h2,Option.getD_some]
  cases c <;> first | (cases h2; constructor) | cases h2
end Go.AI
