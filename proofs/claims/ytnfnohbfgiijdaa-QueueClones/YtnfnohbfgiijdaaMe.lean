/- The example network. -/
import Derived.Test.YtnfnohbfgiijdaaQl
set_option linter.unusedSimpArgs false
set_option linter.unusedVariables false
namespace Go.AI
open Go.Proofs
set_option maxRecDepth 20000

def frzCell (a : AV) (k : Nat) (ag : Bool) (H : Heap) : Option Heap :=
  match a with
  | .ptr o off => match H[o]? with
    | some (some cs) => match cs[off + k]? with
      | some c => match frzSlot ag c H with
        | some (v, H') => match H'[o]? with
          | some (some _) => some (H'.set o (some (cs.set (off + k) v)))
          | _ => none
        | none => none
      | none => none
    | _ => none
  | _ => none
def frzC (r : Option Heap) (zs : List (Tmp × Option Nat × Bool)) (Q : Exit → Kt) (e : Env) (H : Heap) : Prop :=
  match r with
  | some H' => frzK zs Q e H'
  | none => frzK zs Q e H
@[go_sem] theorem frzK_C (t : Tmp) (k : Nat) (ag : Bool) (zs : List (Tmp × Option Nat × Bool)) (Q : Exit → Kt) (e : Env) (H : Heap) : frzK ((t, some k, ag) :: zs) Q e H = frzC (frzCell (look e t) k ag H) zs Q e H := by
  rw [frzK_cons]
  unfold frz1 frzC frzCell
  dsimp only
  cases look e t with
  | ptr o off =>
    dsimp only
    cases H[o]? with
    | none => rfl
    | some x => cases x with
      | none => rfl
      | some cs =>
        dsimp only
        cases cs[off + k]? with
        | none => rfl
        | some c =>
          dsimp only
          cases frzSlot ag c H with
          | none => rfl
          | some p =>
            dsimp only
            cases p.2[o]? with
            | none => rfl
            | some x => cases x <;> rfl
  | _ => rfl
@[go_sem] theorem frzC_some (H' : Heap) (zs : List (Tmp × Option Nat × Bool)) (Q : Exit → Kt) (e : Env) (H : Heap) : frzC (some H') zs Q e H = frzK zs Q e H' := rfl
attribute [go_sem] frzCell

/-! A function without arguments begins with no slot. -/
section
variable {P : Program} {n : Nat} {h : Hint} {ops : Array Oper} {K : Kt} {Q : Exit → Kt} {H : Heap} {d : Tmp} {ty : TypeId} {ps : String} {af : Array _root_.Go.Edge}
@[go_sem] theorem awp_start (id : Nat) (ops : Array Oper) (dr : Bool) (b : Code) : awp P n h (.seq (.region id ops dr) b) Q [] H = arun P n h ops ops.toList (endK (h.lv id) (h.at id) (gcK (h.ct id) (seqK (awp P n h b Q) Q))) [] H := rfl
@[go_sem] theorem arun_cons0 (o : Oper) (l : List Oper) : arun P n h ops (o :: l) K [] H = aop P n h ops o (arun P n h ops l K) [] H := rfl
@[go_sem] theorem aop_alloc0 (el : TypeId) : aop P n h ops ⟨some d, .alloc el, ty, ps, af, none⟩ K [] H =
    (d < n ∧ ∃ z, zeroAV P el = some z ∧ K ((d, .ptr H.length 0) :: []) (H ++ [some z.cells])) := by
  rw [aop_none _ rfl]
  have e1 : (#[] : Array Operand).toList = [] := rfl
  simp only [taking, opTy, Op.operands, e1, evs_plain, List.map_nil, put, dstOk]
  rfl
@[go_sem] theorem aop_assign0 (x : Operand) : aop P n h ops ⟨some d, .assign x, ty, ps, af, none⟩ K [] H =
    (d < n ∧ K ((d, evo P (some ty) [] x) :: tkd x (evo P (some ty) [] x) []) H) := by
  rw [aop_none _ rfl]
  simp only [taking, opTy, Op.operands, evs, tkd_eq, ares, put, dstOk]; rfl
end

def nm (i : Int) : ByteArray := byteStr [.int .u8 (IntKind.u8.wrap (IntKind.i64.wrap i))]
theorem nm_eq (i : Int) : byteStr [.int .u8 (IntKind.u8.wrap (IntKind.i64.wrap i))] = nm i := rfl
/-- The cells of the four nodes when k of them have a name. -/
def exC : Nat → List AV
  | 0 => [.str .empty, .bool false, .int .i64 100, .int .i64 100, .str .empty, .bool false, .int .i64 100, .int .i64 100, .str .empty, .bool false, .int .i64 100, .int .i64 100, .str .empty, .bool false, .int .i64 100, .int .i64 100]
  | 1 => [.str (nm 97), .bool false, .int .i64 100, .int .i64 100, .str .empty, .bool false, .int .i64 100, .int .i64 100, .str .empty, .bool false, .int .i64 100, .int .i64 100, .str .empty, .bool false, .int .i64 100, .int .i64 100]
  | 2 => [.str (nm 97), .bool false, .int .i64 100, .int .i64 100, .str (nm 98), .bool false, .int .i64 100, .int .i64 100, .str .empty, .bool false, .int .i64 100, .int .i64 100, .str .empty, .bool false, .int .i64 100, .int .i64 100]
  | 3 => [.str (nm 97), .bool false, .int .i64 100, .int .i64 100, .str (nm 98), .bool false, .int .i64 100, .int .i64 100, .str (nm 99), .bool false, .int .i64 100, .int .i64 100, .str .empty, .bool false, .int .i64 100, .int .i64 100]
  | _ => [.str (nm 97), .bool false, .int .i64 100, .int .i64 100, .str (nm 98), .bool false, .int .i64 100, .int .i64 100, .str (nm 99), .bool false, .int .i64 100, .int .i64 100, .str (nm 100), .bool false, .int .i64 100, .int .i64 100]
theorem exC0 : exC 0 = [.str .empty, .bool false, .int .i64 100, .int .i64 100, .str .empty, .bool false, .int .i64 100, .int .i64 100, .str .empty, .bool false, .int .i64 100, .int .i64 100, .str .empty, .bool false, .int .i64 100, .int .i64 100] := rfl
theorem exC1 : exC 1 = [.str (nm 97), .bool false, .int .i64 100, .int .i64 100, .str .empty, .bool false, .int .i64 100, .int .i64 100, .str .empty, .bool false, .int .i64 100, .int .i64 100, .str .empty, .bool false, .int .i64 100, .int .i64 100] := rfl
theorem exC2 : exC 2 = [.str (nm 97), .bool false, .int .i64 100, .int .i64 100, .str (nm 98), .bool false, .int .i64 100, .int .i64 100, .str .empty, .bool false, .int .i64 100, .int .i64 100, .str .empty, .bool false, .int .i64 100, .int .i64 100] := rfl
theorem exC3 : exC 3 = [.str (nm 97), .bool false, .int .i64 100, .int .i64 100, .str (nm 98), .bool false, .int .i64 100, .int .i64 100, .str (nm 99), .bool false, .int .i64 100, .int .i64 100, .str .empty, .bool false, .int .i64 100, .int .i64 100] := rfl
theorem exC4 : exC 4 = [.str (nm 97), .bool false, .int .i64 100, .int .i64 100, .str (nm 98), .bool false, .int .i64 100, .int .i64 100, .str (nm 99), .bool false, .int .i64 100, .int .i64 100, .str (nm 100), .bool false, .int .i64 100, .int .i64 100] := rfl

def exNodes : List Node := [⟨nm 97, false, 100, 100⟩, ⟨nm 98, false, 100, 100⟩, ⟨nm 99, false, 100, 100⟩, ⟨nm 100, false, 100, 100⟩]
def exLinks : List Link := [⟨0, 1, 10⟩, ⟨1, 3, 10⟩, ⟨0, 2, 10⟩, ⟨2, 3, 10⟩, ⟨1, 2, 10⟩, ⟨3, 0, 10⟩]
def exEdges : List Edge := [⟨⟨#[101]⟩, 0⟩, ⟨⟨#[102]⟩, 3⟩]

theorem f26_a : ACall Try.prog 26 [] [] fun v H' => v = .agg [.sl none (l111 exNodes), .msl 4 0 6 3, .sl none (l114 exEdges)] ∧ ∃ a b c, H' = [some a, some b, none, some c, some (exLinks.flatMap Link.c)] ∧ bndL 6 a = true ∧ bndL 6 b = true ∧ bndL 6 c = true := by
  refine ACall.of h26 rfl mixed h26_d Try.func26 rfl call26 (by simp [Try.f26]) ?_
  simp only [Try.f26, go_sem, Nat.reduceEqDiff, Nat.reduceLT, ↓reduceIte, Nat.reduceAdd, Nat.reduceSub, Nat.reduceMul, Nat.reduceBEq, Nat.reduceLeDiff, Nat.reduceDvd, reduceCtorEq, Int.reduceToNat, Int.reduceLT, Int.reduceLE, Nat.le_refl, Int.le_refl, false_implies, implies_true, frzSlot, List.take_length, List.mem_cons, List.not_mem_nil, or_false, forall_eq_or_imp, forall_eq, List.range_succ, List.range_zero, exists_eq_left', Option.some.injEq, Network.cf, Network.z, Node.z, Node.c]
  refine awp_for 4 (fun k => [(0, .ptr 0 0), (2, .ptr 3 0), (3, .int .i64 (k : Int))]) (fun k => [some [.sl (some 4) [], .sl (some 3) [], .sl (some 2) []], some [.str .empty, .bool false, .int .i64 100, .int .i64 100], some (exC k), some [.msl 2 0 4 4, .sl (some 3) [], .sl (some 2) []]]) rfl rfl ?_
  intro k hk
  have h5 : k = 0 ∨ k = 1 ∨ k = 2 ∨ k = 3 ∨ k = 4 := by omega
  have c0 : ((0 : Nat) : Int) = 0 := rfl
  have c1 : ((1 : Nat) : Int) = 1 := rfl
  have c2 : ((2 : Nat) : Int) = 2 := rfl
  have c3 : ((3 : Nat) : Int) = 3 := rfl
  have c4 : ((4 : Nat) : Int) = 4 := rfl
  have b0 : isByte (.int .u8 (IntKind.u8.wrap (IntKind.i64.wrap 97))) = true := by kernel_rfl
  have b1 : isByte (.int .u8 (IntKind.u8.wrap (IntKind.i64.wrap 98))) = true := by kernel_rfl
  have b2 : isByte (.int .u8 (IntKind.u8.wrap (IntKind.i64.wrap 99))) = true := by kernel_rfl
  have b3 : isByte (.int .u8 (IntKind.u8.wrap (IntKind.i64.wrap 100))) = true := by kernel_rfl
  have w1 : IntKind.i64.wrap 1 = 1 := by kernel_rfl
  have w2 : IntKind.i64.wrap 2 = 2 := by kernel_rfl
  have w3 : IntKind.i64.wrap 3 = 3 := by kernel_rfl
  have w4 : IntKind.i64.wrap 4 = 4 := by kernel_rfl
  rcases h5 with rfl | rfl | rfl | rfl | rfl
  · simp only [go_sem, Nat.reduceEqDiff, Nat.reduceLT, ↓reduceIte, Nat.reduceAdd, Nat.reduceSub, Nat.reduceMul, Nat.reduceBEq, Nat.reduceLeDiff, Nat.reduceDvd, reduceCtorEq, Int.reduceToNat, Int.reduceLT, Int.reduceLE, Nat.le_refl, Int.le_refl, false_implies, implies_true, frzSlot, List.take_length, List.mem_cons, List.not_mem_nil, or_false, forall_eq_or_imp, forall_eq, List.range_succ, List.range_zero, exists_eq_left', Option.some.injEq, exC0, c0, c4, Int.reduceAdd, b0, w1, nm_eq]
    exact ⟨rfl, rfl⟩
  · simp only [go_sem, Nat.reduceEqDiff, Nat.reduceLT, ↓reduceIte, Nat.reduceAdd, Nat.reduceSub, Nat.reduceMul, Nat.reduceBEq, Nat.reduceLeDiff, Nat.reduceDvd, reduceCtorEq, Int.reduceToNat, Int.reduceLT, Int.reduceLE, Nat.le_refl, Int.le_refl, false_implies, implies_true, frzSlot, List.take_length, List.mem_cons, List.not_mem_nil, or_false, forall_eq_or_imp, forall_eq, List.range_succ, List.range_zero, exists_eq_left', Option.some.injEq, exC1, c1, c4, Int.reduceAdd, b1, w2, nm_eq]
    exact ⟨rfl, rfl⟩
  · simp only [go_sem, Nat.reduceEqDiff, Nat.reduceLT, ↓reduceIte, Nat.reduceAdd, Nat.reduceSub, Nat.reduceMul, Nat.reduceBEq, Nat.reduceLeDiff, Nat.reduceDvd, reduceCtorEq, Int.reduceToNat, Int.reduceLT, Int.reduceLE, Nat.le_refl, Int.le_refl, false_implies, implies_true, frzSlot, List.take_length, List.mem_cons, List.not_mem_nil, or_false, forall_eq_or_imp, forall_eq, List.range_succ, List.range_zero, exists_eq_left', Option.some.injEq, exC2, c2, c4, Int.reduceAdd, b2, w3, nm_eq]
    exact ⟨rfl, rfl⟩
  · simp only [go_sem, Nat.reduceEqDiff, Nat.reduceLT, ↓reduceIte, Nat.reduceAdd, Nat.reduceSub, Nat.reduceMul, Nat.reduceBEq, Nat.reduceLeDiff, Nat.reduceDvd, reduceCtorEq, Int.reduceToNat, Int.reduceLT, Int.reduceLE, Nat.le_refl, Int.le_refl, false_implies, implies_true, frzSlot, List.take_length, List.mem_cons, List.not_mem_nil, or_false, forall_eq_or_imp, forall_eq, List.range_succ, List.range_zero, exists_eq_left', Option.some.injEq, exC3, c3, c4, Int.reduceAdd, b3, w4, nm_eq]
    exact ⟨rfl, rfl⟩
  · simp only [go_sem, Nat.reduceEqDiff, Nat.reduceLT, ↓reduceIte, Nat.reduceAdd, Nat.reduceSub, Nat.reduceMul, Nat.reduceBEq, Nat.reduceLeDiff, Nat.reduceDvd, reduceCtorEq, Int.reduceToNat, Int.reduceLT, Int.reduceLE, Nat.le_refl, Int.le_refl, false_implies, implies_true, frzSlot, List.take_length, List.mem_cons, List.not_mem_nil, or_false, forall_eq_or_imp, forall_eq, List.range_succ, List.range_zero, exists_eq_left', Option.some.injEq, exC4, c4]
    exact ⟨rfl, _, _, _, rfl, rfl, rfl, rfl⟩
end Go.AI

/- The sanity check answers true. -/
namespace Go.AI
open Go.Proofs
set_option maxRecDepth 20000

def sLinks : List Link := [⟨0, 1, 2⟩, ⟨1, 3, 10⟩, ⟨0, 2, 10⟩, ⟨2, 3, 10⟩, ⟨1, 2, 10⟩, ⟨3, 0, 10⟩]
def sNet : Network := ⟨exNodes, sLinks, exEdges⟩
theorem sLinks_row : chunk true 3 6 [.int .i64 0, .int .i64 1, .int .i64 2, .int .i64 1, .int .i64 3, .int .i64 10, .int .i64 0, .int .i64 2, .int .i64 10, .int .i64 2, .int .i64 3, .int .i64 10, .int .i64 1, .int .i64 2, .int .i64 10, .int .i64 3, .int .i64 0, .int .i64 10] = l65 sLinks := rfl

def goodB (q : QS) : Bool := q.lines.all (fun x => decide (x.due.length ≤ x.packets.length) && decide (x.packets.length ≤ 1000000) && decide (0 ≤ x.capacity) && decide (x.capacity ≤ 1048576)) && decide (q.lines.length ≤ 1000)
theorem goodB_fine {q : QS} (h : goodB q = true) : q.fine := by
  simp only [goodB, Bool.and_eq_true, List.all_eq_true, decide_eq_true_eq] at h
  exact ⟨fun x hx => ⟨(h.1 x hx).1.1.1, (h.1 x hx).1.1.2⟩, h.2, fun x hx => ⟨(h.1 x hx).1.2, (h.1 x hx).2⟩⟩

def pk0 (k : Int) : Packet := ⟨k, ⟨0, 0, 0, 0, 0, 0, 0, 0, 0, 0⟩⟩
/-- The states of the check. -/
def sq : Nat → QS
  | 0 => newq sNet [3, 3, 3, 3, 3, 3] 5
  | k + 1 => (pput (sq k) 0 (pk0 ((k : Int) + 1))).1
def sq7 : QS := (ptick (sq 6)).1
def sq8 : QS := (ptick sq7).1
def sq9 : QS := (ptick sq8).1
def sq10 : QS := (ptick sq9).1
def sq11 : QS := (pswitch sq10 0 false).1
def sq12 : QS := (pput sq11 0 (pk0 7)).1
def sq13 : QS := (pswitch sq12 0 true).1
def sq14 : QS := (ptick sq13).1
def sCode (k : Nat) : Int := if k < 5 then 0 else 12

theorem sq_good : (goodB (sq 0) && goodB (sq 1) && goodB (sq 2) && goodB (sq 3) && goodB (sq 4) && goodB (sq 5) && goodB (sq 6)) = true := by kernel_rfl
theorem sq_fine {k : Nat} (hk : k ≤ 6) : (sq k).fine := by
  have h := sq_good
  simp only [Bool.and_eq_true] at h
  obtain ⟨⟨⟨⟨⟨⟨h0, h1⟩, h2⟩, h3⟩, h4⟩, h5⟩, h6⟩ := h
  have h7 : k = 0 ∨ k = 1 ∨ k = 2 ∨ k = 3 ∨ k = 4 ∨ k = 5 ∨ k = 6 := by omega
  rcases h7 with rfl | rfl | rfl | rfl | rfl | rfl | rfl
  · exact goodB_fine h0
  · exact goodB_fine h1
  · exact goodB_fine h2
  · exact goodB_fine h3
  · exact goodB_fine h4
  · exact goodB_fine h5
  · exact goodB_fine h6
theorem sq7_fine : sq7.fine := goodB_fine (by kernel_rfl)
theorem sq8_fine : sq8.fine := goodB_fine (by kernel_rfl)
theorem sq9_fine : sq9.fine := goodB_fine (by kernel_rfl)
theorem sq10_fine : sq10.fine := goodB_fine (by kernel_rfl)
theorem sq11_fine : sq11.fine := goodB_fine (by kernel_rfl)
theorem sq12_fine : sq12.fine := goodB_fine (by kernel_rfl)
theorem sq13_fine : sq13.fine := goodB_fine (by kernel_rfl)
theorem sq14_fine : sq14.fine := goodB_fine (by kernel_rfl)
theorem s_code {k : Nat} (hk : k < 6) : (pput (sq k) 0 (pk0 ((k : Int) + 1))).2 = sCode k := by
  have h7 : k = 0 ∨ k = 1 ∨ k = 2 ∨ k = 3 ∨ k = 4 ∨ k = 5 := by omega
  rcases h7 with rfl | rfl | rfl | rfl | rfl | rfl
  · exact (by kernel_rfl : (pput (sq 0) 0 (pk0 (((0 : Nat) : Int) + 1))).2 = sCode 0)
  · exact (by kernel_rfl : (pput (sq 1) 0 (pk0 (((1 : Nat) : Int) + 1))).2 = sCode 1)
  · exact (by kernel_rfl : (pput (sq 2) 0 (pk0 (((2 : Nat) : Int) + 1))).2 = sCode 2)
  · exact (by kernel_rfl : (pput (sq 3) 0 (pk0 (((3 : Nat) : Int) + 1))).2 = sCode 3)
  · exact (by kernel_rfl : (pput (sq 4) 0 (pk0 (((4 : Nat) : Int) + 1))).2 = sCode 4)
  · exact (by kernel_rfl : (pput (sq 5) 0 (pk0 (((5 : Nat) : Int) + 1))).2 = sCode 5)
theorem s_out6 : (ptick (sq 6)).2.length = 0 := by kernel_rfl
theorem s_out7 : (ptick sq7).2.length = 0 := by kernel_rfl
theorem s_out8 : (ptick sq8).2.length = 0 := by kernel_rfl
theorem s_out9 : (ptick sq9).2 = [⟨0, pk0 1⟩, ⟨0, pk0 2⟩] := by kernel_rfl
theorem s_wait : pwaiting sq7 0 = [pk0 3, pk0 4, pk0 5] := by kernel_rfl
theorem s_fly : pflying sq7 0 = [pk0 1, pk0 2] := by kernel_rfl
theorem s_now : sq10.now = 4 := by kernel_rfl
theorem s_sw1 : (pswitch sq10 0 false).2 = 0 := by kernel_rfl
theorem s_put : (pput sq11 0 (pk0 7)).2 = 13 := by kernel_rfl
theorem s_meter : pmeter sq12 0 = ⟨5, 2, 1, 1, 3⟩ := by kernel_rfl
theorem s_has : phas sq12 0 = true := by kernel_rfl
theorem s_sw2 : (pswitch sq12 0 true).2 = 0 := by kernel_rfl
theorem s_out13 : (ptick sq13).2.length = 0 := by kernel_rfl
theorem s_idle : pidle sq14 = true := by kernel_rfl
theorem s_up0 : pup sq14 0 = true := by kernel_rfl
theorem s_up6 : pup sq14 6 = false := by kernel_rfl
theorem s_fine1 : rfine sNet [3, 3, 3, 3, 3, 3] 5 = true := by kernel_rfl
theorem s_fine2 : rfine sNet [3, 3, 3, 3, 3] 5 = false := by kernel_rfl

theorem l45_cons (x : Packet) (xs : List Packet) : l45 (x :: xs) = .agg x.c :: l45 xs := rfl
theorem l57_cons (x : Passed) (xs : List Passed) : l57 (x :: xs) = .agg x.c :: l57 xs := rfl
theorem pk0_id (k : Int) : (pk0 k).id = k := rfl

theorem f10_c : PCall Try.prog 10 [] (.bool true) := by
  refine PCall.of h10 mixed h10_d Try.func10 rfl call10 (by simp [Try.f10]) (by simp [pureL, AV.pure, go_sem]) rfl ?_
  simp only [Try.f10, go_sem, Nat.reduceEqDiff, Nat.reduceLT, ↓reduceIte, Nat.reduceAdd, Nat.reduceSub, Nat.reduceMul, Nat.reduceBEq, Nat.reduceLeDiff, Nat.reduceDvd, reduceCtorEq, Int.reduceToNat, Int.reduceLT, Int.reduceLE, Nat.le_refl, Int.le_refl, false_implies, implies_true, frzSlot, List.take_length, List.mem_cons, List.not_mem_nil, or_false, forall_eq_or_imp, forall_eq, List.range_succ, List.range_zero, exists_eq_left', Option.some.injEq]
  refine ACallK.intro f26_a ?_
  rintro _ _ ⟨rfl, a, b, c, rfl, ha, hb, hc⟩
  have c6 : ((6 : Nat) : Int) = 6 := rfl
  simp only [go_sem, Nat.reduceEqDiff, Nat.reduceLT, ↓reduceIte, Nat.reduceAdd, Nat.reduceSub, Nat.reduceMul, Nat.reduceBEq, Nat.reduceLeDiff, Nat.reduceDvd, reduceCtorEq, Int.reduceToNat, Int.reduceLT, Int.reduceLE, Nat.le_refl, Int.le_refl, false_implies, implies_true, frzSlot, List.take_length, List.mem_cons, List.not_mem_nil, or_false, forall_eq_or_imp, forall_eq, List.range_succ, List.range_zero, exists_eq_left', Option.some.injEq, Network.cf, Network.z, c6, exLinks, Link.c, sLinks_row]
  have hcl : closedH [some a, some b, none, some c, none, some [.sl none (l111 exNodes), .sl none (l65 sLinks), .sl none (l114 exEdges)]] :=
    closedB_spec (by simp only [go_sem, ha, hb, hc, l111_bnd, l65_bnd, l114_bnd, Nat.reduceAdd])
  refine ACallK.intro (f11_good hcl sNet [3, 3, 3, 3, 3, 3] 5 s_fine1 (by decide)).lend ?_
  rintro _ _ ⟨rfl, rfl⟩
  have B := nbase_ok hcl sNet
  have g5 : ∀ n len L, (QX (nbase [some a, some b, none, some c, none, some [.sl none (l111 exNodes), .sl none (l65 sLinks), .sl none (l114 exEdges)]] sNet) 8 7 n len L)[5]? = some (some [.sl none (l111 exNodes), .sl none (l65 sLinks), .sl none (l114 exEdges)]) := fun n len L => rfl
  simp only [List.length_cons, List.length_nil, Nat.reduceAdd] at B ⊢
  generalize hH0 : nbase [some a, some b, none, some c, none, some [.sl none (l111 exNodes), .sl none (l65 sLinks), .sl none (l114 exEdges)]] sNet = H0 at *
  simp only [go_sem, Nat.reduceEqDiff, Nat.reduceLT, ↓reduceIte, Nat.reduceAdd, Nat.reduceSub, Nat.reduceMul, Nat.reduceBEq, Nat.reduceLeDiff, Nat.reduceDvd, reduceCtorEq, Int.reduceToNat, Int.reduceLT, Int.reduceLE, Nat.le_refl, Int.le_refl, false_implies, implies_true, frzSlot, List.take_length, List.mem_cons, List.not_mem_nil, or_false, forall_eq_or_imp, forall_eq, List.range_succ, List.range_zero, exists_eq_left', Option.some.injEq, g5]
  refine ACallK.intro (f11_bad B.closed sNet [3, 3, 3, 3, 3] 5 s_fine2).lend ?_
  rintro _ _ ⟨rfl, rfl⟩
  have c0 : ((0 : Nat) : Int) = 0 := rfl
  simp only [go_sem, Nat.reduceEqDiff, Nat.reduceLT, ↓reduceIte, Nat.reduceAdd, Nat.reduceSub, Nat.reduceMul, Nat.reduceBEq, Nat.reduceLeDiff, Nat.reduceDvd, reduceCtorEq, Int.reduceToNat, Int.reduceLT, Int.reduceLE, Nat.le_refl, Int.le_refl, false_implies, implies_true, frzSlot, List.take_length, List.mem_cons, List.not_mem_nil, or_false, forall_eq_or_imp, forall_eq, List.range_succ, List.range_zero, exists_eq_left', Option.some.injEq, Int.reduceBEq, Int.reduceBNe]
  refine awp_for 6 (fun k => [(2, .ptr 8 0), (6, .int .i64 ((k : Int) + 1))]) (fun k => QH H0 8 7 (sq k)) rfl rfl ?_
  intro k hk
  by_cases hlt : k < 6
  · have k1 : (k : Int) + 1 ≤ 6 := by omega
    simp only [go_sem, Nat.reduceEqDiff, Nat.reduceLT, ↓reduceIte, Nat.reduceAdd, Nat.reduceSub, Nat.reduceMul, Nat.reduceBEq, Nat.reduceLeDiff, Nat.reduceDvd, reduceCtorEq, Int.reduceToNat, Int.reduceLT, Int.reduceLE, Nat.le_refl, Int.le_refl, false_implies, implies_true, frzSlot, List.take_length, List.mem_cons, List.not_mem_nil, or_false, forall_eq_or_imp, forall_eq, List.range_succ, List.range_zero, exists_eq_left', Option.some.injEq, k1]
    refine ACallK.intro (f21_a B (sq k) (sq_fine hk).1 0 (pk0 ((k : Int) + 1))) ?_
    rintro _ _ ⟨rfl, rfl⟩
    rw [s_code hlt]
    have w : IntKind.i64.wrap ((k : Int) + 1 + 1) = ((k + 1 : Nat) : Int) + 1 := by rw [w64 (by omega) (by omega)]; rfl
    by_cases h5 : k < 5
    · have e0 : sCode k = 0 := if_pos h5
      have e1 : (k : Int) + 1 < 6 := by omega
      have e2 : ((k : Int) + 1 == 6) = false := by simp; omega
      rw [e0]
      simp only [go_sem, Nat.reduceEqDiff, Nat.reduceLT, ↓reduceIte, Nat.reduceAdd, Nat.reduceSub, Nat.reduceMul, Nat.reduceBEq, Nat.reduceLeDiff, Nat.reduceDvd, reduceCtorEq, Int.reduceToNat, Int.reduceLT, Int.reduceLE, Nat.le_refl, Int.le_refl, false_implies, implies_true, frzSlot, List.take_length, List.mem_cons, List.not_mem_nil, or_false, forall_eq_or_imp, forall_eq, List.range_succ, List.range_zero, exists_eq_left', Option.some.injEq, Int.reduceBEq, Int.reduceBNe, e1, e2, w, beq_self_eq_true]
      exact ⟨hlt, rfl, rfl⟩
    · have e0 : sCode k = 12 := if_neg h5
      have e1 : ¬ (k : Int) + 1 < 6 := by omega
      have e2 : ((k : Int) + 1 == 6) = true := by simp; omega
      rw [e0]
      simp only [go_sem, Nat.reduceEqDiff, Nat.reduceLT, ↓reduceIte, Nat.reduceAdd, Nat.reduceSub, Nat.reduceMul, Nat.reduceBEq, Nat.reduceLeDiff, Nat.reduceDvd, reduceCtorEq, Int.reduceToNat, Int.reduceLT, Int.reduceLE, Nat.le_refl, Int.le_refl, false_implies, implies_true, frzSlot, List.take_length, List.mem_cons, List.not_mem_nil, or_false, forall_eq_or_imp, forall_eq, List.range_succ, List.range_zero, exists_eq_left', Option.some.injEq, Int.reduceBEq, Int.reduceBNe, e1, e2, w, beq_self_eq_true]
      exact ⟨hlt, rfl, rfl⟩
  · have k1 : ¬ (k : Int) + 1 ≤ 6 := by omega
    have hk6 : k = 6 := by omega
    subst hk6
    simp only [go_sem, Nat.reduceEqDiff, Nat.reduceLT, ↓reduceIte, Nat.reduceAdd, Nat.reduceSub, Nat.reduceMul, Nat.reduceBEq, Nat.reduceLeDiff, Nat.reduceDvd, reduceCtorEq, Int.reduceToNat, Int.reduceLT, Int.reduceLE, Nat.le_refl, Int.le_refl, false_implies, implies_true, frzSlot, List.take_length, List.mem_cons, List.not_mem_nil, or_false, forall_eq_or_imp, forall_eq, List.range_succ, List.range_zero, exists_eq_left', Option.some.injEq, k1]
    have T : ∀ {H1 : Heap}, Base H1 8 7 → ∀ (q q' : QS), q.fine → (ptick q).1 = q' → ACall Try.prog 22 [.ptr 8 0] (QH H1 8 7 q) fun v H' => v = .sl (some 12) (l57 (ptick q).2) ∧ H' = QH H1 8 7 q' :=
      fun B q q' hq he => by rw [← he]; exact f22_a B q hq.1 hq.2.1 hq.2.2
    refine ACallK.intro (T B (sq 6) sq7 (sq_fine (Nat.le_refl _)) rfl) ?_
    rintro _ _ ⟨rfl, rfl⟩
    simp only [go_sem, Nat.reduceEqDiff, Nat.reduceLT, ↓reduceIte, Nat.reduceAdd, Nat.reduceSub, Nat.reduceMul, Nat.reduceBEq, Nat.reduceLeDiff, Nat.reduceDvd, reduceCtorEq, Int.reduceToNat, Int.reduceLT, Int.reduceLE, Nat.le_refl, Int.le_refl, false_implies, implies_true, frzSlot, List.take_length, List.mem_cons, List.not_mem_nil, or_false, forall_eq_or_imp, forall_eq, List.range_succ, List.range_zero, exists_eq_left', Option.some.injEq]
    refine RCallK.intro (f18_r 0 sq7_fine.1 (B.v sq7)) ?_
    rw [s_wait]
    simp only [go_sem, Nat.reduceEqDiff, Nat.reduceLT, ↓reduceIte, Nat.reduceAdd, Nat.reduceSub, Nat.reduceMul, Nat.reduceBEq, Nat.reduceLeDiff, Nat.reduceDvd, reduceCtorEq, Int.reduceToNat, Int.reduceLT, Int.reduceLE, Nat.le_refl, Int.le_refl, false_implies, implies_true, frzSlot, List.take_length, List.mem_cons, List.not_mem_nil, or_false, forall_eq_or_imp, forall_eq, List.range_succ, List.range_zero, exists_eq_left', Option.some.injEq]
    refine RCallK.intro (f19_r 0 sq7_fine.1 (B.v sq7)) ?_
    rw [s_fly]
    simp only [go_sem, Nat.reduceEqDiff, Nat.reduceLT, ↓reduceIte, Nat.reduceAdd, Nat.reduceSub, Nat.reduceMul, Nat.reduceBEq, Nat.reduceLeDiff, Nat.reduceDvd, reduceCtorEq, Int.reduceToNat, Int.reduceLT, Int.reduceLE, Nat.le_refl, Int.le_refl, false_implies, implies_true, frzSlot, List.take_length, List.mem_cons, List.not_mem_nil, or_false, forall_eq_or_imp, forall_eq, List.range_succ, List.range_zero, exists_eq_left', Option.some.injEq]
    refine ACallK.intro (T B sq7 sq8 sq7_fine rfl) ?_
    rintro _ _ ⟨rfl, rfl⟩
    simp only [go_sem, Nat.reduceEqDiff, Nat.reduceLT, ↓reduceIte, Nat.reduceAdd, Nat.reduceSub, Nat.reduceMul, Nat.reduceBEq, Nat.reduceLeDiff, Nat.reduceDvd, reduceCtorEq, Int.reduceToNat, Int.reduceLT, Int.reduceLE, Nat.le_refl, Int.le_refl, false_implies, implies_true, frzSlot, List.take_length, List.mem_cons, List.not_mem_nil, or_false, forall_eq_or_imp, forall_eq, List.range_succ, List.range_zero, exists_eq_left', Option.some.injEq]
    refine ACallK.intro (T B sq8 sq9 sq8_fine rfl) ?_
    rintro _ _ ⟨rfl, rfl⟩
    simp only [go_sem, Nat.reduceEqDiff, Nat.reduceLT, ↓reduceIte, Nat.reduceAdd, Nat.reduceSub, Nat.reduceMul, Nat.reduceBEq, Nat.reduceLeDiff, Nat.reduceDvd, reduceCtorEq, Int.reduceToNat, Int.reduceLT, Int.reduceLE, Nat.le_refl, Int.le_refl, false_implies, implies_true, frzSlot, List.take_length, List.mem_cons, List.not_mem_nil, or_false, forall_eq_or_imp, forall_eq, List.range_succ, List.range_zero, exists_eq_left', Option.some.injEq]
    refine ACallK.intro (T B sq9 sq10 sq9_fine rfl) ?_
    rintro _ _ ⟨rfl, rfl⟩
    rw [s_out9]
    have z0 : IntKind.i64.wrap 0 = 0 := by kernel_rfl
    have c2 : ((2 : Nat) : Int) = 2 := rfl
    have c3 : ((3 : Nat) : Int) = 3 := rfl
    simp only [go_sem, Nat.reduceEqDiff, Nat.reduceLT, ↓reduceIte, Nat.reduceAdd, Nat.reduceSub, Nat.reduceMul, Nat.reduceBEq, Nat.reduceLeDiff, Nat.reduceDvd, reduceCtorEq, Int.reduceToNat, Int.reduceLT, Int.reduceLE, Nat.le_refl, Int.le_refl, false_implies, implies_true, frzSlot, List.take_length, List.mem_cons, List.not_mem_nil, or_false, forall_eq_or_imp, forall_eq, List.range_succ, List.range_zero, exists_eq_left', Option.some.injEq, s_out6, s_out7, s_out8, c0, c2, c3, z0, Int.reduceBEq, Int.reduceBNe, Int.reduceAdd, l45_cons, l57_cons, pk0_id]
    refine RCallK.intro (f27_r (B.v sq10)) ?_
    rw [s_now]
    simp only [go_sem, Nat.reduceEqDiff, Nat.reduceLT, ↓reduceIte, Nat.reduceAdd, Nat.reduceSub, Nat.reduceMul, Nat.reduceBEq, Nat.reduceLeDiff, Nat.reduceDvd, reduceCtorEq, Int.reduceToNat, Int.reduceLT, Int.reduceLE, Nat.le_refl, Int.le_refl, false_implies, implies_true, frzSlot, List.take_length, List.mem_cons, List.not_mem_nil, or_false, forall_eq_or_imp, forall_eq, List.range_succ, List.range_zero, exists_eq_left', Option.some.injEq, Int.reduceBNe]
    refine ACallK.intro (f28_a B sq10 sq10_fine.1 0 false) ?_
    rintro _ _ ⟨rfl, rfl⟩
    rw [s_sw1]
    simp only [go_sem, Nat.reduceEqDiff, Nat.reduceLT, ↓reduceIte, Nat.reduceAdd, Nat.reduceSub, Nat.reduceMul, Nat.reduceBEq, Nat.reduceLeDiff, Nat.reduceDvd, reduceCtorEq, Int.reduceToNat, Int.reduceLT, Int.reduceLE, Nat.le_refl, Int.le_refl, false_implies, implies_true, frzSlot, List.take_length, List.mem_cons, List.not_mem_nil, or_false, forall_eq_or_imp, forall_eq, List.range_succ, List.range_zero, exists_eq_left', Option.some.injEq]
    refine ACallK.intro (f21_a B sq11 sq11_fine.1 0 (pk0 7)) ?_
    rintro _ _ ⟨rfl, rfl⟩
    rw [s_put]
    change arun _ _ _ _ _ _ _ (QH H0 8 7 sq12)
    simp only [go_sem, Nat.reduceEqDiff, Nat.reduceLT, ↓reduceIte, Nat.reduceAdd, Nat.reduceSub, Nat.reduceMul, Nat.reduceBEq, Nat.reduceLeDiff, Nat.reduceDvd, reduceCtorEq, Int.reduceToNat, Int.reduceLT, Int.reduceLE, Nat.le_refl, Int.le_refl, false_implies, implies_true, frzSlot, List.take_length, List.mem_cons, List.not_mem_nil, or_false, forall_eq_or_imp, forall_eq, List.range_succ, List.range_zero, exists_eq_left', Option.some.injEq]
    refine RCallK.intro (f17_r 0 (B.v sq12)) ?_
    rw [s_meter, s_has]
    have B' : Base (H0 ++ [some ({ in_ := 5, out := 2, full := 1, down := 1, lost := 3 } : Meter).c]) 8 7 := B.app (by simp only [go_sem])
    simp only [go_sem, Nat.reduceEqDiff, Nat.reduceLT, ↓reduceIte, Nat.reduceAdd, Nat.reduceSub, Nat.reduceMul, Nat.reduceBEq, Nat.reduceLeDiff, Nat.reduceDvd, reduceCtorEq, Int.reduceToNat, Int.reduceLT, Int.reduceLE, Nat.le_refl, Int.le_refl, false_implies, implies_true, frzSlot, List.take_length, List.mem_cons, List.not_mem_nil, or_false, forall_eq_or_imp, forall_eq, List.range_succ, List.range_zero, exists_eq_left', Option.some.injEq, B.push, QX_len, B.s0, B.g0]
    refine ACallK.intro (f28_a B' sq12 sq12_fine.1 0 true) ?_
    rintro _ _ ⟨rfl, rfl⟩
    rw [s_sw2]
    change arun _ _ _ _ _ _ _ (QH _ 8 7 sq13)
    simp only [go_sem, Nat.reduceEqDiff, Nat.reduceLT, ↓reduceIte, Nat.reduceAdd, Nat.reduceSub, Nat.reduceMul, Nat.reduceBEq, Nat.reduceLeDiff, Nat.reduceDvd, reduceCtorEq, Int.reduceToNat, Int.reduceLT, Int.reduceLE, Nat.le_refl, Int.le_refl, false_implies, implies_true, frzSlot, List.take_length, List.mem_cons, List.not_mem_nil, or_false, forall_eq_or_imp, forall_eq, List.range_succ, List.range_zero, exists_eq_left', Option.some.injEq, Int.reduceBEq, B.g0, eq_self]
    refine ACallK.intro (T B' sq13 sq14 sq13_fine rfl) ?_
    rintro _ _ ⟨rfl, rfl⟩
    simp only [go_sem, Nat.reduceEqDiff, Nat.reduceLT, ↓reduceIte, Nat.reduceAdd, Nat.reduceSub, Nat.reduceMul, Nat.reduceBEq, Nat.reduceLeDiff, Nat.reduceDvd, reduceCtorEq, Int.reduceToNat, Int.reduceLT, Int.reduceLE, Nat.le_refl, Int.le_refl, false_implies, implies_true, frzSlot, List.take_length, List.mem_cons, List.not_mem_nil, or_false, forall_eq_or_imp, forall_eq, List.range_succ, List.range_zero, exists_eq_left', Option.some.injEq, s_out13, c0, Int.reduceBEq]
    refine RCallK.intro (f29_r (Nat.le_trans sq14_fine.2.1 (by decide)) (B'.v sq14)) ?_
    rw [s_idle]
    simp only [go_sem, Nat.reduceEqDiff, Nat.reduceLT, ↓reduceIte, Nat.reduceAdd, Nat.reduceSub, Nat.reduceMul, Nat.reduceBEq, Nat.reduceLeDiff, Nat.reduceDvd, reduceCtorEq, Int.reduceToNat, Int.reduceLT, Int.reduceLE, Nat.le_refl, Int.le_refl, false_implies, implies_true, frzSlot, List.take_length, List.mem_cons, List.not_mem_nil, or_false, forall_eq_or_imp, forall_eq, List.range_succ, List.range_zero, exists_eq_left', Option.some.injEq]
    refine RCallK.intro (f20_r 0 (B'.v sq14)) ?_
    rw [s_up0]
    simp only [go_sem, Nat.reduceEqDiff, Nat.reduceLT, ↓reduceIte, Nat.reduceAdd, Nat.reduceSub, Nat.reduceMul, Nat.reduceBEq, Nat.reduceLeDiff, Nat.reduceDvd, reduceCtorEq, Int.reduceToNat, Int.reduceLT, Int.reduceLE, Nat.le_refl, Int.le_refl, false_implies, implies_true, frzSlot, List.take_length, List.mem_cons, List.not_mem_nil, or_false, forall_eq_or_imp, forall_eq, List.range_succ, List.range_zero, exists_eq_left', Option.some.injEq]
    refine RCallK.intro (f20_r 6 (B'.v sq14)) ?_
    rw [s_up6]
    simp only [go_sem, Nat.reduceEqDiff, Nat.reduceLT, ↓reduceIte, Nat.reduceAdd, Nat.reduceSub, Nat.reduceMul, Nat.reduceBEq, Nat.reduceLeDiff, Nat.reduceDvd, reduceCtorEq, Int.reduceToNat, Int.reduceLT, Int.reduceLE, Nat.le_refl, Int.le_refl, false_implies, implies_true, frzSlot, List.take_length, List.mem_cons, List.not_mem_nil, or_false, forall_eq_or_imp, forall_eq, List.range_succ, List.range_zero, exists_eq_left', Option.some.injEq]
end Go.AI
