/- Cells written and read apart from each other. -/
import Derived.Test.YtofajkggflobkaaGreatDoorAiU
set_option linter.unusedSimpArgs false
set_option linter.unusedVariables false
namespace Go.AI
theorem splice_get {cs xs : List AV} {off : Nat} (h : off + xs.length <= cs.length) (i : Nat) : (splice cs off xs)[i]? = if off <= i /\ i < off + xs.length then xs[i - off]? else cs[i]?:=by
 unfold splice
 have h1 : (cs.take off).length = off:=by simp; omega
 by_cases hi : i < off
 ·rw [if_neg (by omega),List.append_assoc,List.getElem?_append_left (by omega),List.getElem?_take_of_lt hi]
 ·by_cases hj : i < off + xs.length
  ·rw [if_pos ⟨by omega,hj⟩,List.append_assoc,List.getElem?_append_right (by omega),h1,List.getElem?_append_left (by omega)]
  ·rw [if_neg (by omega),List.getElem?_append_right (by simp; omega),List.length_append,h1,List.getElem?_drop]
   congr 1
   omega
theorem splice_len {cs xs : List AV} {off : Nat} (h : off + xs.length <= cs.length) : (splice cs off xs).length = cs.length:=by
 unfold splice
 simp
 omega
theorem splice_comm {cs xs ys : List AV} {f g : Nat} (hd : f + xs.length <= g \/ g + ys.length <= f) (h1 : f + xs.length <= cs.length) (h2 : g + ys.length <= cs.length) :
  splice (splice cs f xs) g ys = splice (splice cs g ys) f xs:=by
 apply List.ext_getElem?
 intro i
 rw [splice_get (by rw [splice_len h1]; exact h2),splice_get h1,splice_get (by rw [splice_len h2]; exact h1),splice_get h2]
 by_cases ha : g <= i /\ i < g + ys.length
 ·rw [if_pos ha,if_neg (by omega),if_pos ha]
 ·rw [if_neg ha]
  by_cases hb : f <= i /\ i < f + xs.length
  ·rw [if_pos hb,if_pos hb]
  ·rw [if_neg hb,if_neg hb,if_neg ha]
def ldLen (P : Program) (t : TypeId) : Nat :=
 match P.underlying t with
 | some (.struct _) | some (.array _ _) => P.cellsOf t
 | _ => 1
theorem ldv_splice {P : Program} {t : TypeId} {cs xs : List AV} {f g : Nat} (hd : f + ldLen P t <= g \/ g + xs.length <= f) (h2 : g + xs.length <= cs.length) : ldv P t (splice cs g xs) f = ldv P t cs f:=by
 have agg : ∀ k,(f + k <= g \/ g + xs.length <= f) -> ((splice cs g xs).drop f).take k = (cs.drop f).take k:=by
  intro k hk
  apply List.ext_getElem?
  intro i
  rw [List.getElem?_take,List.getElem?_take]
  split
  ·rw [List.getElem?_drop,List.getElem?_drop,splice_get h2,if_neg (by omega)]
  ·rfl
 unfold ldv
 unfold ldLen at hd
 split
 ·rename_i fs hu
  simp only [hu] at hd
  rw [splice_len h2,agg _ hd]
 ·rename_i n e hu
  simp only [hu] at hd
  rw [splice_len h2,agg _ hd]
 ·rename_i d hns hna hu
  have h1 : f + 1 <= g \/ g + xs.length <= f:=by
   have e : (match some d with | some (TypeDesc.struct _) => P.cellsOf t | some (TypeDesc.array _ _) => P.cellsOf t | _ => 1) = 1:=by
    cases d <;> first | rfl | exact absurd rfl (hns _) | exact absurd rfl (hna _ _)
   rw [hu] at hd
   rw [e] at hd
   exact hd
  rw [splice_get h2,if_neg (by omega)]
 ·rfl
end Go.AI
