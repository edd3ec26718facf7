/- Abstract values for Go data, and what it means that the model's value and memory are described by one. No program in sight. -/
import Derived.WalkKit
import Derived.Orders
set_option linter.unusedSimpArgs false
set_option linter.unusedVariables false
namespace Go.AI

/-- An abstract value: lists for slices that are not written any more, pointers into abstract objects, pointers to constant cells. -/
inductive AV where
  | undef
  | int (k : IntKind) (n : Int)
  | bool (b : Bool)
  | str (s : ByteArray)
  | nilp
  | ptr (o off : Nat)
  | cptr (cs : List AV) (off : Nat)
  | sl (own : Option Nat) (es : List AV)
  | msl (o off len sz : Nat)
  | fn (f : Fn) (first captured : List AV)
  | nilf
  | agg (cs : List AV)
  | tup (vs : List AV)
  deriving Inhabited

def AV.cells : AV → List AV
  | .agg cs => cs
  | v => [v]

def AV.flat : AV → List AV
  | .tup vs => vs.flatMap AV.cells
  | v => v.cells

def AV.scalar : AV → Bool
  | .undef | .agg _ | .tup _ => false
  | _ => true

def AV.isVal : AV → Bool
  | .undef | .tup _ => false
  | _ => true

def borrow1 : AV → AV
  | .sl _ es => .sl none es
  | v => v

def borrow0 : AV → AV
  | .agg cs => .agg (cs.map borrow1)
  | .sl _ es => .sl none es
  | v => v

def AV.borrow : AV → AV
  | .tup vs => .tup (vs.map borrow0)
  | v => borrow0 v

/-- What a block is to the abstract side: never written again; an abstract object; a growing row whose cells below p are fixed. -/
inductive Kind where
  | imm
  | obj
  | buf (p : Nat)

structure Gh where
  obs : List Nat
  kind : Nat → Kind

def Gh.safe (G : Gh) (b o : Nat) : Prop :=
  match G.kind b with
  | .imm => True
  | .obj => False
  | .buf p => o < p

def cat (es : List AV) : List AV := es.flatMap AV.cells

/-- The model's value v is what the abstract value says, in the world w. -/
inductive VRel (G : Gh) (w : World) : AV → Value → Prop where
  | undef (v : Value) : VRel G w .undef v
  | int (k : IntKind) (n : Int) : VRel G w (.int k n) (.int k n)
  | bool (b : Bool) : VRel G w (.bool b) (.bool b)
  | str (s : ByteArray) : VRel G w (.str s) (.string s)
  | nilp : VRel G w .nilp (.pointer none)
  | ptr (o off b : Nat) (h : G.obs[o]? = some b) : VRel G w (.ptr o off) (.pointer (some ⟨b, off, none⟩))
  | cptr (cs : List AV) (off b q : Nat) (u : Nat → Value)
      (h : ∀ (i : Nat) (c : AV), cs[i]? = some c → c.scalar = true ∧ G.safe b (q + i) ∧ w.cell? ⟨b, q + i, none⟩ = some (u i))
      (hu : ∀ (i : Nat) (c : AV), cs[i]? = some c → VRel G w c (u i)) : VRel G w (.cptr cs off) (.pointer (some ⟨b, q + off, none⟩))
  | slnil (own : Option Nat) : VRel G w (.sl own []) (.slice none 0 0)
  | slany (own : Option Nat) (a : Addr) : VRel G w (.sl own []) (.slice (some a) 0 0)
  | sl (own : Option Nat) (es : List AV) (sz b q cap : Nat) (u : Nat → Value)
      (hsz : ∀ e ∈ es, e.cells.length = sz) (hown : ∀ n, own = some n → n = sz) (hl : es.length ≤ cap) (hm : cap ≤ maxLen)
      (h : ∀ (i : Nat) (c : AV), (cat es)[i]? = some c → c.scalar = true ∧ G.safe b (q + i) ∧ w.cell? ⟨b, q + i, none⟩ = some (u i))
      (hu : ∀ (i : Nat) (c : AV), (cat es)[i]? = some c → VRel G w c (u i)) : VRel G w (.sl own es) (.slice (some ⟨b, q, none⟩) es.length cap)
  | msl (o off len sz b cap : Nat) (h : G.obs[o]? = some b) (hl : len ≤ cap) (hm : cap ≤ maxLen)
      (hc : ∃ (C : Array Value) (E : TypeId), w.heap[b]? = some (.cells C E (0, 0)) ∧ off + cap * sz ≤ C.size) : VRel G w (.msl o off len sz) (.slice (some ⟨b, off, none⟩) len cap)
  | fn (f : Fn) (first captured : List AV) (fi ca : Array Value) (h1 : first.length = fi.size) (h2 : captured.length = ca.size)
      (h3 : ∀ (i : Nat) (c : AV) (v : Value), first[i]? = some c → fi[i]? = some v → VRel G w c v) (h4 : ∀ (i : Nat) (c : AV) (v : Value), captured[i]? = some c → ca[i]? = some v → VRel G w c v) :
      VRel G w (.fn f first captured) (.func f fi ca)
  | nilf : VRel G w .nilf .nilFunc
  | agg (cs : List AV) (vs : Array Value) (hl : cs.length = vs.size) (hs : ∀ c ∈ cs, c.scalar = true)
      (h : ∀ (i : Nat) (c : AV) (v : Value), cs[i]? = some c → vs[i]? = some v → VRel G w c v) : VRel G w (.agg cs) (.agg vs)
  | tup (cs : List AV) (vs : Array Value) (hl : cs.length = vs.size) (hs : ∀ c ∈ cs, c.isVal = true)
      (h : ∀ (i : Nat) (c : AV) (v : Value), cs[i]? = some c → vs[i]? = some v → VRel G w c v) : VRel G w (.tup cs) (.tuple vs)

/-- What is fixed stays fixed, between two worlds and two ghosts. -/
structure Keeps (G : Gh) (w : World) (G' : Gh) (w' : World) : Prop where
  obs : ∀ (o b : Nat), G.obs[o]? = some b → G'.obs[o]? = some b
  shape : ∀ (b : Nat) (C : Array Value) (E : TypeId), w.heap[b]? = some (.cells C E (0, 0)) → ∃ C' : Array Value, w'.heap[b]? = some (.cells C' E (0, 0)) ∧ C'.size = C.size
  safe : ∀ (b o : Nat) (v : Value), G.safe b o → w.cell? ⟨b, o, none⟩ = some v → G'.safe b o ∧ w'.cell? ⟨b, o, none⟩ = some v

theorem Keeps.refl (G : Gh) (w : World) : Keeps G w G w := ⟨fun _ _ h => h, fun _ C _ h => ⟨C, h, rfl⟩, fun _ _ _ h1 h2 => ⟨h1, h2⟩⟩

theorem Keeps.trans {G G' G'' : Gh} {w w' w'' : World} (h : Keeps G w G' w') (h' : Keeps G' w' G'' w'') : Keeps G w G'' w'' :=
  ⟨fun o b hb => h'.obs o b (h.obs o b hb), fun b C E hb => by
      obtain ⟨C', h1, h2⟩ := h.shape b C E hb
      obtain ⟨C'', h3, h4⟩ := h'.shape b C' E h1
      exact ⟨C'', h3, h4.trans h2⟩, fun b o v h1 h2 => let ⟨a, c⟩ := h.safe b o v h1 h2; h'.safe b o v a c⟩

theorem VRel.keep {G G' : Gh} {w w' : World} (hk : Keeps G w G' w') {a : AV} {v : Value} (h : VRel G w a v) : VRel G' w' a v := by
  induction h with
  | undef v => exact .undef v
  | int k n => exact .int k n
  | bool b => exact .bool b
  | str s => exact .str s
  | nilp => exact .nilp
  | ptr o off b h => exact .ptr o off b (hk.obs o b h)
  | cptr cs off b q u h hu ih => exact .cptr cs off b q u (fun i c hi => ⟨(h i c hi).1, hk.safe b _ _ (h i c hi).2.1 (h i c hi).2.2⟩) ih
  | slnil own => exact .slnil own
  | slany own a => exact .slany _ a
  | sl own es sz b q cap u hsz hown hl hm h hu ih =>
    exact .sl own es sz b q cap u hsz hown hl hm (fun i c hi => ⟨(h i c hi).1, hk.safe b _ _ (h i c hi).2.1 (h i c hi).2.2⟩) ih
  | msl o off len sz b cap h hl hm hc =>
    obtain ⟨C, E, h1, h2⟩ := hc
    obtain ⟨C', h3, h4⟩ := hk.shape b C E h1
    exact .msl o off len sz b cap (hk.obs o b h) hl hm ⟨C', E, h3, by omega⟩
  | fn f first captured fi ca h1 h2 h3 h4 ih1 ih2 => exact .fn f first captured fi ca h1 h2 ih1 ih2
  | nilf => exact .nilf
  | agg cs vs hl hs h ih => exact .agg cs vs hl hs ih
  | tup cs vs hl hs h ih => exact .tup cs vs hl hs ih

theorem VRel.borrow1 {G : Gh} {w : World} {a : AV} {v : Value} (h : VRel G w a v) : VRel G w (borrow1 a) v := by
  cases h with
  | slnil own => exact .slnil none
  | slany own a => exact .slany _ a
  | sl own es sz b q cap u hsz hown hl hm h hu => exact .sl none es sz b q cap u hsz (fun n hn => by cases hn) hl hm h hu
  | cptr cs off b q u h hu => exact .cptr cs off b q u h hu
  | _ => constructor <;> assumption

theorem scalar_borrow1 (a : AV) : (Go.AI.borrow1 a).scalar = a.scalar := by cases a <;> rfl

theorem VRel.borrow0 {G : Gh} {w : World} {a : AV} {v : Value} (h : VRel G w a v) : VRel G w (borrow0 a) v := by
  cases h with
  | slnil own => exact .slnil none
  | slany own a => exact .slany _ a
  | sl own es sz b q cap u hsz hown hl hm h hu => exact .sl none es sz b q cap u hsz (fun n hn => by cases hn) hl hm h hu
  | agg cs vs hl hs h =>
    refine .agg _ vs (by simpa using hl) (fun c hc => ?_) (fun i c u hi hv => ?_)
    · obtain ⟨d, hd, rfl⟩ := List.mem_map.1 hc
      rw [scalar_borrow1]; exact hs d hd
    · rw [List.getElem?_map] at hi
      cases hci : cs[i]? with
      | none => rw [hci] at hi; cases hi
      | some d => rw [hci] at hi; cases hi; exact (h i d u hci hv).borrow1
  | cptr cs off b q u h hu => exact .cptr cs off b q u h hu
  | _ => constructor <;> assumption

theorem isVal_borrow0 (a : AV) : (Go.AI.borrow0 a).isVal = a.isVal := by cases a <;> rfl

theorem VRel.borrow {G : Gh} {w : World} {a : AV} {v : Value} (h : VRel G w a v) : VRel G w a.borrow v := by
  cases h with
  | tup cs vs hl hs h =>
    refine .tup _ vs (by simpa using hl) (fun c hc => ?_) (fun i c u hi hv => ?_)
    · obtain ⟨d, hd, rfl⟩ := List.mem_map.1 hc
      rw [isVal_borrow0]; exact hs d hd
    · rw [List.getElem?_map] at hi
      cases hci : cs[i]? with
      | none => rw [hci] at hi; cases hi
      | some d => rw [hci] at hi; cases hi; exact (h i d u hci hv).borrow0
  | slnil own => exact (VRel.slnil own).borrow0
  | slany own a => exact .slany _ a
  | sl own es sz b q cap u hsz hown hl hm h hu => exact (VRel.sl own es sz b q cap u hsz hown hl hm h hu).borrow0
  | agg cs vs hl hs h => exact (VRel.agg cs vs hl hs h).borrow0
  | cptr cs off b q u h hu => exact .cptr cs off b q u h hu
  | _ => constructor <;> assumption

end Go.AI
