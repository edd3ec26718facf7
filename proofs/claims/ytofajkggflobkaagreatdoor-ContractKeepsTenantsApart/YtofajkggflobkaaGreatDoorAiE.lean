/- What one operation does to abstract values: 'ares', and that the model's operation does it. -/
import Derived.Test.YtofajkggflobkaaGreatDoorAiD
set_option linter.unusedSimpArgs false
set_option linter.unusedVariables false
namespace Go.AI
structure Hint where
 live : List (Nat × List Tmp)
 tk : List Tmp
 mt : List Tmp
 fz : List (Nat × List (Tmp × Option Nat × Bool))
 pc : List Tmp
 gc : List (Nat × Nat)
 dy : List Nat
def ldv (P : Program) (t : TypeId) (cs : List AV) (off : Nat) : Option AV :=
 match P.underlying t with
 | some (.struct _) | some (.array _ _) => if off + P.cellsOf t <= cs.length then some (.agg ((cs.drop off).take (P.cellsOf t))) else none
 | some _ => cs[off]?
 | none => none
def splice (cs : List AV) (off : Nat) (xs : List AV) : List AV:=cs.take off ++ xs ++ cs.drop (off + xs.length)
def abin (op : BinOp) (a b : AV) (R : AV -> Prop) : Prop :=
 match a,b with
 | .int k x,.int k' y =>
  match op with
  | .shl => 0 <= y /\ R (.int k (k.wrap (x * 2 ^ (min y.toNat k.bits))))
  | .shr => 0 <= y /\ R (.int k (x.fdiv (2 ^ (min y.toNat k.bits))))
  | .add => k = k' /\ R (.int k (k.wrap (x + y)))
  | .sub => k = k' /\ R (.int k (k.wrap (x - y)))
  | .mul => k = k' /\ R (.int k (k.wrap (x * y)))
  | .quo => k = k' /\ y ≠ 0 /\ R (.int k (k.wrap (x.tdiv y)))
  | .rem => k = k' /\ y ≠ 0 /\ R (.int k (x.tmod y))
  | .and => k = k' /\ R (.int k (k.wrap (BitVec.ofInt k.bits x &&& BitVec.ofInt k.bits y).toNat))
  | .or => k = k' /\ R (.int k (k.wrap (BitVec.ofInt k.bits x ||| BitVec.ofInt k.bits y).toNat))
  | .xor => k = k' /\ R (.int k (k.wrap (BitVec.ofInt k.bits x ^^^ BitVec.ofInt k.bits y).toNat))
  | .andNot => k = k' /\ R (.int k (k.wrap (BitVec.ofInt k.bits x &&& ~~~ BitVec.ofInt k.bits y).toNat))
  | .eql => k = k' /\ R (.bool (x == y))
  | .neq => k = k' /\ R (.bool (x != y))
  | .lss => k = k' /\ R (.bool (decide (x < y)))
  | .leq => k = k' /\ R (.bool (decide (x <= y)))
  | .gtr => k = k' /\ R (.bool (decide (x > y)))
  | .geq => k = k' /\ R (.bool (decide (x ≥ y)))
 | .str x,.str y =>
  match op with
  | .add => x.size + y.size <= 9223372036854775807 /\ R (.str (x ++ y))
  | .eql => R (.bool (x.toList == y.toList))
  | .neq => R (.bool !(x.toList == y.toList))
  | .lss => R (.bool (Op.bytesLess x.toList y.toList))
  | .leq => R (.bool (Op.bytesLess x.toList y.toList || x.toList == y.toList))
  | .gtr => R (.bool !(Op.bytesLess x.toList y.toList || x.toList == y.toList))
  | .geq => R (.bool !(Op.bytesLess x.toList y.toList))
  | _ => False
 | _,_ => False
theorem abin_sem {P : Program} {op : BinOp} {t : TypeId} {a b : AV} {R : AV -> Prop} {G : Gh} {w : World} {u v : Value} (h : abin op a b R) (hu : VRel G w a u) (hv : VRel G w b v) (x y : Operand) :
  ∃ c r,R c /\ VRel G w c r /\ owned1 c = false /\ c.scalar = true /\ (do eqGuard op t x y u v; binOp op t u v).run P w = .ok r w:=by
 unfold abin at h
 split at h
 ·rename_i k x' k' y'
  cases hu; cases hv
  cases op
  case shl => exact ⟨_,_,h.2,.int _ _,rfl,rfl,by simp [eqGuard,binOp,Op.shift,Int.not_lt.2 h.1]⟩
  case shr => exact ⟨_,_,h.2,.int _ _,rfl,rfl,by simp [eqGuard,binOp,Op.shift,Int.not_lt.2 h.1]⟩
  case quo => obtain ⟨rfl,h0,hR⟩:=h; exact ⟨_,_,hR,.int _ _,rfl,rfl,by simp [eqGuard,binOp,Op.intDiv,h0]⟩
  case rem => obtain ⟨rfl,h0,hR⟩:=h; exact ⟨_,_,hR,.int _ _,rfl,rfl,by simp [eqGuard,binOp,Op.intDiv,h0]⟩
  case eql => obtain ⟨rfl,hR⟩:=h; exact ⟨_,_,hR,.bool _,rfl,rfl,by simp [eqGuard,binOp,Op.intCmp]⟩
  case neq => obtain ⟨rfl,hR⟩:=h; exact ⟨_,_,hR,.bool _,rfl,rfl,by simp [eqGuard,binOp,Op.intCmp]⟩
  case lss => obtain ⟨rfl,hR⟩:=h; exact ⟨_,_,hR,.bool _,rfl,rfl,by simp [eqGuard,binOp,Op.intCmp]⟩
  case leq => obtain ⟨rfl,hR⟩:=h; exact ⟨_,_,hR,.bool _,rfl,rfl,by simp [eqGuard,binOp,Op.intCmp]⟩
  case gtr => obtain ⟨rfl,hR⟩:=h; exact ⟨_,_,hR,.bool _,rfl,rfl,by simp [eqGuard,binOp,Op.intCmp]⟩
  case geq => obtain ⟨rfl,hR⟩:=h; exact ⟨_,_,hR,.bool _,rfl,rfl,by simp [eqGuard,binOp,Op.intCmp]⟩
  all_goals (obtain ⟨rfl,hR⟩:=h; exact ⟨_,_,hR,.int _ _,rfl,rfl,by simp [eqGuard,binOp,Op.intArith,Op.intBits]⟩)
 ·rename_i x' y'
  cases hu; cases hv
  cases op
  case add =>
   refine ⟨_,_,h.2,.str _,rfl,rfl, ?_⟩
   have : ¬ (((x'.size + y'.size : Nat) : Int) > IntKind.i64.max):=by
    have:=h.1
    have e : IntKind.i64.max = 9223372036854775807:=by decide
    rw [e]; omega
   simp [eqGuard,binOp,Op.stringOp]
   simpa using this
  case eql => exact ⟨_,_,h,.bool _,rfl,rfl,by simp [eqGuard,binOp,Op.stringOp]⟩
  case neq => exact ⟨_,_,h,.bool _,rfl,rfl,by simp [eqGuard,binOp,Op.stringOp]⟩
  case lss => exact ⟨_,_,h,.bool _,rfl,rfl,by simp [eqGuard,binOp,Op.stringOp]⟩
  case leq => exact ⟨_,_,h,.bool _,rfl,rfl,by simp [eqGuard,binOp,Op.stringOp]⟩
  case gtr => exact ⟨_,_,h,.bool _,rfl,rfl,by simp [eqGuard,binOp,Op.stringOp]⟩
  case geq => exact ⟨_,_,h,.bool _,rfl,rfl,by simp [eqGuard,binOp,Op.stringOp]⟩
  all_goals exact h.elim
 ·exact h.elim
end Go.AI
