/- Hints for the walks: which slots live on behind a region, which loads and moves take the right to append along. Printed by gen.py. -/
import Derived.Test.YtnfnohbfgiijdaaWk
set_option linter.unusedSimpArgs false
set_option linter.unusedVariables false
namespace Go.AI
open Go.Proofs
def h3 : Hint := ⟨[(0, [1]), (1, [1, 16]), (2, [2]), (3, [1, 3, 4]), (4, [1, 3, 4, 5, 6]), (5, [1, 3, 4, 5, 47]), (6, [2]), (7, [1, 3, 5, 49]), (8, [2]), (9, [3, 5, 52, 53, 54]), (10, [3, 5, 52, 53, 54, 55]), (11, [3, 5, 8, 52, 53, 54]), (12, [3, 5, 8, 9, 10, 52, 53, 54]), (13, [3, 5, 9, 10, 11, 12, 13, 52, 53, 54]), (14, [3, 5, 9, 10, 12, 13, 52, 53, 54]), (15, [3, 5, 52, 53, 54, 86]), (16, [2]), (17, [3, 5, 52, 53, 54]), (18, [2])], [72, 73], [84], [], [17, 35, 50, 67, 74, 84, 88], []⟩
@[go_sem] theorem h3_l0 : h3.lv 0 = [1] := rfl
@[go_sem] theorem h3_g0 : h3.ct 0 = none := rfl
@[go_sem] theorem h3_z0 : h3.at 0 = [] := rfl
@[go_sem] theorem h3_l1 : h3.lv 1 = [1, 16] := rfl
@[go_sem] theorem h3_g1 : h3.ct 1 = none := rfl
@[go_sem] theorem h3_z1 : h3.at 1 = [] := rfl
@[go_sem] theorem h3_l2 : h3.lv 2 = [2] := rfl
@[go_sem] theorem h3_g2 : h3.ct 2 = none := rfl
@[go_sem] theorem h3_z2 : h3.at 2 = [] := rfl
@[go_sem] theorem h3_l3 : h3.lv 3 = [1, 3, 4] := rfl
@[go_sem] theorem h3_g3 : h3.ct 3 = none := rfl
@[go_sem] theorem h3_z3 : h3.at 3 = [] := rfl
@[go_sem] theorem h3_l4 : h3.lv 4 = [1, 3, 4, 5, 6] := rfl
@[go_sem] theorem h3_g4 : h3.ct 4 = none := rfl
@[go_sem] theorem h3_z4 : h3.at 4 = [] := rfl
@[go_sem] theorem h3_l5 : h3.lv 5 = [1, 3, 4, 5, 47] := rfl
@[go_sem] theorem h3_g5 : h3.ct 5 = none := rfl
@[go_sem] theorem h3_z5 : h3.at 5 = [] := rfl
@[go_sem] theorem h3_l6 : h3.lv 6 = [2] := rfl
@[go_sem] theorem h3_g6 : h3.ct 6 = none := rfl
@[go_sem] theorem h3_z6 : h3.at 6 = [] := rfl
@[go_sem] theorem h3_l7 : h3.lv 7 = [1, 3, 5, 49] := rfl
@[go_sem] theorem h3_g7 : h3.ct 7 = none := rfl
@[go_sem] theorem h3_z7 : h3.at 7 = [] := rfl
@[go_sem] theorem h3_l8 : h3.lv 8 = [2] := rfl
@[go_sem] theorem h3_g8 : h3.ct 8 = none := rfl
@[go_sem] theorem h3_z8 : h3.at 8 = [] := rfl
@[go_sem] theorem h3_l9 : h3.lv 9 = [3, 5, 52, 53, 54] := rfl
@[go_sem] theorem h3_g9 : h3.ct 9 = none := rfl
@[go_sem] theorem h3_z9 : h3.at 9 = [] := rfl
@[go_sem] theorem h3_l10 : h3.lv 10 = [3, 5, 52, 53, 54, 55] := rfl
@[go_sem] theorem h3_g10 : h3.ct 10 = none := rfl
@[go_sem] theorem h3_z10 : h3.at 10 = [] := rfl
@[go_sem] theorem h3_l11 : h3.lv 11 = [3, 5, 8, 52, 53, 54] := rfl
@[go_sem] theorem h3_g11 : h3.ct 11 = none := rfl
@[go_sem] theorem h3_z11 : h3.at 11 = [] := rfl
@[go_sem] theorem h3_l12 : h3.lv 12 = [3, 5, 8, 9, 10, 52, 53, 54] := rfl
@[go_sem] theorem h3_g12 : h3.ct 12 = none := rfl
@[go_sem] theorem h3_z12 : h3.at 12 = [] := rfl
@[go_sem] theorem h3_l13 : h3.lv 13 = [3, 5, 9, 10, 11, 12, 13, 52, 53, 54] := rfl
@[go_sem] theorem h3_g13 : h3.ct 13 = none := rfl
@[go_sem] theorem h3_z13 : h3.at 13 = [] := rfl
@[go_sem] theorem h3_l14 : h3.lv 14 = [3, 5, 9, 10, 12, 13, 52, 53, 54] := rfl
@[go_sem] theorem h3_g14 : h3.ct 14 = none := rfl
@[go_sem] theorem h3_z14 : h3.at 14 = [] := rfl
@[go_sem] theorem h3_l15 : h3.lv 15 = [3, 5, 52, 53, 54, 86] := rfl
@[go_sem] theorem h3_g15 : h3.ct 15 = none := rfl
@[go_sem] theorem h3_z15 : h3.at 15 = [] := rfl
@[go_sem] theorem h3_l16 : h3.lv 16 = [2] := rfl
@[go_sem] theorem h3_g16 : h3.ct 16 = none := rfl
@[go_sem] theorem h3_z16 : h3.at 16 = [] := rfl
@[go_sem] theorem h3_l17 : h3.lv 17 = [3, 5, 52, 53, 54] := rfl
@[go_sem] theorem h3_g17 : h3.ct 17 = none := rfl
@[go_sem] theorem h3_z17 : h3.at 17 = [] := rfl
@[go_sem] theorem h3_l18 : h3.lv 18 = [2] := rfl
@[go_sem] theorem h3_g18 : h3.ct 18 = none := rfl
@[go_sem] theorem h3_z18 : h3.at 18 = [] := rfl
theorem h3_d : Try.f3.body.any (drawsOk h3) = true := by kernel_rfl
@[go_sem] theorem h3_t : h3.tk = [72, 73] := rfl
@[go_sem] theorem h3_m : h3.mt = [84] := rfl
@[go_sem] theorem h3_p : h3.pc = [17, 35, 50, 67, 74, 84, 88] := rfl
def h4 : Hint := ⟨[(0, [1]), (1, [1, 19]), (2, [2]), (3, [1, 3, 4]), (4, [1, 3, 32]), (5, [2]), (6, [1, 3, 5]), (7, [1, 3, 5, 6]), (8, [1, 3, 5, 6, 45, 46, 47]), (9, [1, 3, 5, 6, 45, 46, 47, 48]), (10, [1, 3, 5, 6, 7, 8, 45, 46, 47]), (11, [1, 3, 5, 6, 7, 8, 45, 46, 47]), (12, [1, 3, 5, 6, 7, 8, 9, 10, 45, 46, 47]), (13, [1, 3, 5, 6, 7, 8, 9, 45, 46, 47, 67]), (14, [1, 3, 5, 6, 9, 45, 46, 47]), (15, [1, 3, 5, 6, 45, 46, 47, 80, 81, 82]), (16, [1, 3, 5, 6, 45, 46, 47, 80, 81, 82, 83]), (17, [1, 3, 5, 6, 12, 45, 46, 47, 80, 81, 82]), (18, [1, 3, 5, 6, 12, 13, 45, 46, 47, 80, 81, 82]), (19, [1, 3, 5, 6, 12, 13, 45, 46, 47, 80, 81, 82, 112]), (20, [1, 3, 5, 6, 12, 13, 45, 46, 47, 80, 81, 82]), (21, [1, 3, 5, 6, 12, 13, 45, 46, 47, 80, 81, 82, 137]), (22, [2]), (23, [1, 3, 5, 6, 45, 46, 47, 80, 81, 82]), (24, [1, 3, 5, 6, 45, 46, 47, 80, 81, 82]), (25, [1, 3, 5, 6, 45, 46, 47, 148, 149]), (26, [1, 3, 5, 6, 45, 46, 47, 148, 149, 150]), (27, [1, 3, 5, 6, 14, 45, 46, 47, 148, 149]), (28, [1, 3, 5, 6, 14, 15, 45, 46, 47, 148, 149]), (29, [1, 3, 5, 6, 45, 46, 47, 148, 149, 185]), (30, [2]), (31, [1, 3, 5, 6, 45, 46, 47, 148, 149]), (32, [1, 3, 5, 6, 45, 46, 47]), (33, [2])], [75, 80], [155, 176, 181], [], [20, 33, 155, 176, 181, 188], []⟩
@[go_sem] theorem h4_l0 : h4.lv 0 = [1] := rfl
@[go_sem] theorem h4_g0 : h4.ct 0 = none := rfl
@[go_sem] theorem h4_z0 : h4.at 0 = [] := rfl
@[go_sem] theorem h4_l1 : h4.lv 1 = [1, 19] := rfl
@[go_sem] theorem h4_g1 : h4.ct 1 = none := rfl
@[go_sem] theorem h4_z1 : h4.at 1 = [] := rfl
@[go_sem] theorem h4_l2 : h4.lv 2 = [2] := rfl
@[go_sem] theorem h4_g2 : h4.ct 2 = none := rfl
@[go_sem] theorem h4_z2 : h4.at 2 = [] := rfl
@[go_sem] theorem h4_l3 : h4.lv 3 = [1, 3, 4] := rfl
@[go_sem] theorem h4_g3 : h4.ct 3 = none := rfl
@[go_sem] theorem h4_z3 : h4.at 3 = [] := rfl
@[go_sem] theorem h4_l4 : h4.lv 4 = [1, 3, 32] := rfl
@[go_sem] theorem h4_g4 : h4.ct 4 = none := rfl
@[go_sem] theorem h4_z4 : h4.at 4 = [] := rfl
@[go_sem] theorem h4_l5 : h4.lv 5 = [2] := rfl
@[go_sem] theorem h4_g5 : h4.ct 5 = none := rfl
@[go_sem] theorem h4_z5 : h4.at 5 = [] := rfl
@[go_sem] theorem h4_l6 : h4.lv 6 = [1, 3, 5] := rfl
@[go_sem] theorem h4_g6 : h4.ct 6 = none := rfl
@[go_sem] theorem h4_z6 : h4.at 6 = [] := rfl
@[go_sem] theorem h4_l7 : h4.lv 7 = [1, 3, 5, 6] := rfl
@[go_sem] theorem h4_g7 : h4.ct 7 = none := rfl
@[go_sem] theorem h4_z7 : h4.at 7 = [] := rfl
@[go_sem] theorem h4_l8 : h4.lv 8 = [1, 3, 5, 6, 45, 46, 47] := rfl
@[go_sem] theorem h4_g8 : h4.ct 8 = none := rfl
@[go_sem] theorem h4_z8 : h4.at 8 = [] := rfl
@[go_sem] theorem h4_l9 : h4.lv 9 = [1, 3, 5, 6, 45, 46, 47, 48] := rfl
@[go_sem] theorem h4_g9 : h4.ct 9 = none := rfl
@[go_sem] theorem h4_z9 : h4.at 9 = [] := rfl
@[go_sem] theorem h4_l10 : h4.lv 10 = [1, 3, 5, 6, 7, 8, 45, 46, 47] := rfl
@[go_sem] theorem h4_g10 : h4.ct 10 = none := rfl
@[go_sem] theorem h4_z10 : h4.at 10 = [] := rfl
@[go_sem] theorem h4_l11 : h4.lv 11 = [1, 3, 5, 6, 7, 8, 45, 46, 47] := rfl
@[go_sem] theorem h4_g11 : h4.ct 11 = none := rfl
@[go_sem] theorem h4_z11 : h4.at 11 = [] := rfl
@[go_sem] theorem h4_l12 : h4.lv 12 = [1, 3, 5, 6, 7, 8, 9, 10, 45, 46, 47] := rfl
@[go_sem] theorem h4_g12 : h4.ct 12 = none := rfl
@[go_sem] theorem h4_z12 : h4.at 12 = [] := rfl
@[go_sem] theorem h4_l13 : h4.lv 13 = [1, 3, 5, 6, 7, 8, 9, 45, 46, 47, 67] := rfl
@[go_sem] theorem h4_g13 : h4.ct 13 = none := rfl
@[go_sem] theorem h4_z13 : h4.at 13 = [] := rfl
@[go_sem] theorem h4_l14 : h4.lv 14 = [1, 3, 5, 6, 9, 45, 46, 47] := rfl
@[go_sem] theorem h4_g14 : h4.ct 14 = none := rfl
@[go_sem] theorem h4_z14 : h4.at 14 = [] := rfl
@[go_sem] theorem h4_l15 : h4.lv 15 = [1, 3, 5, 6, 45, 46, 47, 80, 81, 82] := rfl
@[go_sem] theorem h4_g15 : h4.ct 15 = none := rfl
@[go_sem] theorem h4_z15 : h4.at 15 = [] := rfl
@[go_sem] theorem h4_l16 : h4.lv 16 = [1, 3, 5, 6, 45, 46, 47, 80, 81, 82, 83] := rfl
@[go_sem] theorem h4_g16 : h4.ct 16 = none := rfl
@[go_sem] theorem h4_z16 : h4.at 16 = [] := rfl
@[go_sem] theorem h4_l17 : h4.lv 17 = [1, 3, 5, 6, 12, 45, 46, 47, 80, 81, 82] := rfl
@[go_sem] theorem h4_g17 : h4.ct 17 = none := rfl
@[go_sem] theorem h4_z17 : h4.at 17 = [] := rfl
@[go_sem] theorem h4_l18 : h4.lv 18 = [1, 3, 5, 6, 12, 13, 45, 46, 47, 80, 81, 82] := rfl
@[go_sem] theorem h4_g18 : h4.ct 18 = none := rfl
@[go_sem] theorem h4_z18 : h4.at 18 = [] := rfl
@[go_sem] theorem h4_l19 : h4.lv 19 = [1, 3, 5, 6, 12, 13, 45, 46, 47, 80, 81, 82, 112] := rfl
@[go_sem] theorem h4_g19 : h4.ct 19 = none := rfl
@[go_sem] theorem h4_z19 : h4.at 19 = [] := rfl
@[go_sem] theorem h4_l20 : h4.lv 20 = [1, 3, 5, 6, 12, 13, 45, 46, 47, 80, 81, 82] := rfl
@[go_sem] theorem h4_g20 : h4.ct 20 = none := rfl
@[go_sem] theorem h4_z20 : h4.at 20 = [] := rfl
@[go_sem] theorem h4_l21 : h4.lv 21 = [1, 3, 5, 6, 12, 13, 45, 46, 47, 80, 81, 82, 137] := rfl
@[go_sem] theorem h4_g21 : h4.ct 21 = none := rfl
@[go_sem] theorem h4_z21 : h4.at 21 = [] := rfl
@[go_sem] theorem h4_l22 : h4.lv 22 = [2] := rfl
@[go_sem] theorem h4_g22 : h4.ct 22 = none := rfl
@[go_sem] theorem h4_z22 : h4.at 22 = [] := rfl
@[go_sem] theorem h4_l23 : h4.lv 23 = [1, 3, 5, 6, 45, 46, 47, 80, 81, 82] := rfl
@[go_sem] theorem h4_g23 : h4.ct 23 = none := rfl
@[go_sem] theorem h4_z23 : h4.at 23 = [] := rfl
@[go_sem] theorem h4_l24 : h4.lv 24 = [1, 3, 5, 6, 45, 46, 47, 80, 81, 82] := rfl
@[go_sem] theorem h4_g24 : h4.ct 24 = none := rfl
@[go_sem] theorem h4_z24 : h4.at 24 = [] := rfl
@[go_sem] theorem h4_l25 : h4.lv 25 = [1, 3, 5, 6, 45, 46, 47, 148, 149] := rfl
@[go_sem] theorem h4_g25 : h4.ct 25 = none := rfl
@[go_sem] theorem h4_z25 : h4.at 25 = [] := rfl
@[go_sem] theorem h4_l26 : h4.lv 26 = [1, 3, 5, 6, 45, 46, 47, 148, 149, 150] := rfl
@[go_sem] theorem h4_g26 : h4.ct 26 = none := rfl
@[go_sem] theorem h4_z26 : h4.at 26 = [] := rfl
@[go_sem] theorem h4_l27 : h4.lv 27 = [1, 3, 5, 6, 14, 45, 46, 47, 148, 149] := rfl
@[go_sem] theorem h4_g27 : h4.ct 27 = none := rfl
@[go_sem] theorem h4_z27 : h4.at 27 = [] := rfl
@[go_sem] theorem h4_l28 : h4.lv 28 = [1, 3, 5, 6, 14, 15, 45, 46, 47, 148, 149] := rfl
@[go_sem] theorem h4_g28 : h4.ct 28 = none := rfl
@[go_sem] theorem h4_z28 : h4.at 28 = [] := rfl
@[go_sem] theorem h4_l29 : h4.lv 29 = [1, 3, 5, 6, 45, 46, 47, 148, 149, 185] := rfl
@[go_sem] theorem h4_g29 : h4.ct 29 = none := rfl
@[go_sem] theorem h4_z29 : h4.at 29 = [] := rfl
@[go_sem] theorem h4_l30 : h4.lv 30 = [2] := rfl
@[go_sem] theorem h4_g30 : h4.ct 30 = none := rfl
@[go_sem] theorem h4_z30 : h4.at 30 = [] := rfl
@[go_sem] theorem h4_l31 : h4.lv 31 = [1, 3, 5, 6, 45, 46, 47, 148, 149] := rfl
@[go_sem] theorem h4_g31 : h4.ct 31 = none := rfl
@[go_sem] theorem h4_z31 : h4.at 31 = [] := rfl
@[go_sem] theorem h4_l32 : h4.lv 32 = [1, 3, 5, 6, 45, 46, 47] := rfl
@[go_sem] theorem h4_g32 : h4.ct 32 = none := rfl
@[go_sem] theorem h4_z32 : h4.at 32 = [] := rfl
@[go_sem] theorem h4_l33 : h4.lv 33 = [2] := rfl
@[go_sem] theorem h4_g33 : h4.ct 33 = none := rfl
@[go_sem] theorem h4_z33 : h4.at 33 = [] := rfl
theorem h4_d : Try.f4.body.any (drawsOk h4) = true := by kernel_rfl
@[go_sem] theorem h4_t : h4.tk = [75, 80] := rfl
@[go_sem] theorem h4_m : h4.mt = [155, 176, 181] := rfl
@[go_sem] theorem h4_p : h4.pc = [20, 33, 155, 176, 181, 188] := rfl
def h5 : Hint := ⟨[(0, [1, 2, 3]), (1, [1, 2, 3, 35]), (2, [6]), (3, [1, 2, 3, 7, 8]), (4, [1, 2, 3, 7, 48]), (5, [6]), (6, [1, 2, 3, 7, 9]), (7, [1, 2, 3, 7, 9, 51, 52, 53]), (8, [1, 2, 3, 7, 9, 51, 52, 53, 54]), (9, [1, 2, 3, 7, 9, 11, 51, 52, 53]), (10, [1, 2, 3, 7, 9, 11, 12, 51, 52, 53]), (11, [1, 2, 3, 7, 9, 12, 51, 52, 53, 65]), (12, [1, 2, 3, 7, 9, 12, 14, 51, 52, 53]), (13, [1, 2, 3, 7, 9, 14, 51, 52, 53, 66, 67, 68]), (14, [1, 2, 3, 7, 9, 14, 51, 52, 53, 66, 67, 68, 69]), (15, [1, 2, 3, 7, 9, 14, 16, 51, 52, 53, 66, 67, 68]), (16, [1, 2, 3, 7, 9, 14, 51, 52, 53, 66, 67, 68, 75]), (17, [1, 2, 3, 7, 9, 14, 51, 52, 53, 66, 67, 68]), (18, [1, 2, 3, 7, 9, 14, 51, 52, 53, 66, 67, 68]), (19, [1, 2, 3, 7, 9, 51, 52, 53]), (20, [1, 2, 3, 7, 9, 51, 52, 53]), (21, [1, 3, 9, 17]), (22, [1, 3, 9, 17, 89, 90]), (23, [1, 3, 9, 17, 89, 90, 91]), (24, [1, 3, 9, 17, 18, 89, 90]), (25, [1, 3, 9, 17, 18, 19, 89, 90]), (26, [1, 3, 9, 17, 18, 19, 20, 89, 90]), (27, [1, 3, 9, 17, 18, 19, 20, 89, 90, 101]), (28, [1, 3, 9, 17, 18, 19, 20, 89, 90]), (29, [1, 3, 9, 17, 18, 19, 20, 89, 90]), (30, [1, 3, 9, 17, 89, 90, 120]), (31, [6]), (32, [1, 3, 9, 17, 89, 90]), (33, [6])], [66, 79], [], [], [36, 49, 122], []⟩
@[go_sem] theorem h5_l0 : h5.lv 0 = [1, 2, 3] := rfl
@[go_sem] theorem h5_g0 : h5.ct 0 = none := rfl
@[go_sem] theorem h5_z0 : h5.at 0 = [] := rfl
@[go_sem] theorem h5_l1 : h5.lv 1 = [1, 2, 3, 35] := rfl
@[go_sem] theorem h5_g1 : h5.ct 1 = none := rfl
@[go_sem] theorem h5_z1 : h5.at 1 = [] := rfl
@[go_sem] theorem h5_l2 : h5.lv 2 = [6] := rfl
@[go_sem] theorem h5_g2 : h5.ct 2 = none := rfl
@[go_sem] theorem h5_z2 : h5.at 2 = [] := rfl
@[go_sem] theorem h5_l3 : h5.lv 3 = [1, 2, 3, 7, 8] := rfl
@[go_sem] theorem h5_g3 : h5.ct 3 = none := rfl
@[go_sem] theorem h5_z3 : h5.at 3 = [] := rfl
@[go_sem] theorem h5_l4 : h5.lv 4 = [1, 2, 3, 7, 48] := rfl
@[go_sem] theorem h5_g4 : h5.ct 4 = none := rfl
@[go_sem] theorem h5_z4 : h5.at 4 = [] := rfl
@[go_sem] theorem h5_l5 : h5.lv 5 = [6] := rfl
@[go_sem] theorem h5_g5 : h5.ct 5 = none := rfl
@[go_sem] theorem h5_z5 : h5.at 5 = [] := rfl
@[go_sem] theorem h5_l6 : h5.lv 6 = [1, 2, 3, 7, 9] := rfl
@[go_sem] theorem h5_g6 : h5.ct 6 = none := rfl
@[go_sem] theorem h5_z6 : h5.at 6 = [] := rfl
@[go_sem] theorem h5_l7 : h5.lv 7 = [1, 2, 3, 7, 9, 51, 52, 53] := rfl
@[go_sem] theorem h5_g7 : h5.ct 7 = none := rfl
@[go_sem] theorem h5_z7 : h5.at 7 = [] := rfl
@[go_sem] theorem h5_l8 : h5.lv 8 = [1, 2, 3, 7, 9, 51, 52, 53, 54] := rfl
@[go_sem] theorem h5_g8 : h5.ct 8 = none := rfl
@[go_sem] theorem h5_z8 : h5.at 8 = [] := rfl
@[go_sem] theorem h5_l9 : h5.lv 9 = [1, 2, 3, 7, 9, 11, 51, 52, 53] := rfl
@[go_sem] theorem h5_g9 : h5.ct 9 = none := rfl
@[go_sem] theorem h5_z9 : h5.at 9 = [] := rfl
@[go_sem] theorem h5_l10 : h5.lv 10 = [1, 2, 3, 7, 9, 11, 12, 51, 52, 53] := rfl
@[go_sem] theorem h5_g10 : h5.ct 10 = none := rfl
@[go_sem] theorem h5_z10 : h5.at 10 = [] := rfl
@[go_sem] theorem h5_l11 : h5.lv 11 = [1, 2, 3, 7, 9, 12, 51, 52, 53, 65] := rfl
@[go_sem] theorem h5_g11 : h5.ct 11 = none := rfl
@[go_sem] theorem h5_z11 : h5.at 11 = [] := rfl
@[go_sem] theorem h5_l12 : h5.lv 12 = [1, 2, 3, 7, 9, 12, 14, 51, 52, 53] := rfl
@[go_sem] theorem h5_g12 : h5.ct 12 = none := rfl
@[go_sem] theorem h5_z12 : h5.at 12 = [] := rfl
@[go_sem] theorem h5_l13 : h5.lv 13 = [1, 2, 3, 7, 9, 14, 51, 52, 53, 66, 67, 68] := rfl
@[go_sem] theorem h5_g13 : h5.ct 13 = none := rfl
@[go_sem] theorem h5_z13 : h5.at 13 = [] := rfl
@[go_sem] theorem h5_l14 : h5.lv 14 = [1, 2, 3, 7, 9, 14, 51, 52, 53, 66, 67, 68, 69] := rfl
@[go_sem] theorem h5_g14 : h5.ct 14 = none := rfl
@[go_sem] theorem h5_z14 : h5.at 14 = [] := rfl
@[go_sem] theorem h5_l15 : h5.lv 15 = [1, 2, 3, 7, 9, 14, 16, 51, 52, 53, 66, 67, 68] := rfl
@[go_sem] theorem h5_g15 : h5.ct 15 = none := rfl
@[go_sem] theorem h5_z15 : h5.at 15 = [] := rfl
@[go_sem] theorem h5_l16 : h5.lv 16 = [1, 2, 3, 7, 9, 14, 51, 52, 53, 66, 67, 68, 75] := rfl
@[go_sem] theorem h5_g16 : h5.ct 16 = none := rfl
@[go_sem] theorem h5_z16 : h5.at 16 = [] := rfl
@[go_sem] theorem h5_l17 : h5.lv 17 = [1, 2, 3, 7, 9, 14, 51, 52, 53, 66, 67, 68] := rfl
@[go_sem] theorem h5_g17 : h5.ct 17 = none := rfl
@[go_sem] theorem h5_z17 : h5.at 17 = [] := rfl
@[go_sem] theorem h5_l18 : h5.lv 18 = [1, 2, 3, 7, 9, 14, 51, 52, 53, 66, 67, 68] := rfl
@[go_sem] theorem h5_g18 : h5.ct 18 = none := rfl
@[go_sem] theorem h5_z18 : h5.at 18 = [] := rfl
@[go_sem] theorem h5_l19 : h5.lv 19 = [1, 2, 3, 7, 9, 51, 52, 53] := rfl
@[go_sem] theorem h5_g19 : h5.ct 19 = none := rfl
@[go_sem] theorem h5_z19 : h5.at 19 = [] := rfl
@[go_sem] theorem h5_l20 : h5.lv 20 = [1, 2, 3, 7, 9, 51, 52, 53] := rfl
@[go_sem] theorem h5_g20 : h5.ct 20 = none := rfl
@[go_sem] theorem h5_z20 : h5.at 20 = [] := rfl
@[go_sem] theorem h5_l21 : h5.lv 21 = [1, 3, 9, 17] := rfl
@[go_sem] theorem h5_g21 : h5.ct 21 = none := rfl
@[go_sem] theorem h5_z21 : h5.at 21 = [] := rfl
@[go_sem] theorem h5_l22 : h5.lv 22 = [1, 3, 9, 17, 89, 90] := rfl
@[go_sem] theorem h5_g22 : h5.ct 22 = none := rfl
@[go_sem] theorem h5_z22 : h5.at 22 = [] := rfl
@[go_sem] theorem h5_l23 : h5.lv 23 = [1, 3, 9, 17, 89, 90, 91] := rfl
@[go_sem] theorem h5_g23 : h5.ct 23 = none := rfl
@[go_sem] theorem h5_z23 : h5.at 23 = [] := rfl
@[go_sem] theorem h5_l24 : h5.lv 24 = [1, 3, 9, 17, 18, 89, 90] := rfl
@[go_sem] theorem h5_g24 : h5.ct 24 = none := rfl
@[go_sem] theorem h5_z24 : h5.at 24 = [] := rfl
@[go_sem] theorem h5_l25 : h5.lv 25 = [1, 3, 9, 17, 18, 19, 89, 90] := rfl
@[go_sem] theorem h5_g25 : h5.ct 25 = none := rfl
@[go_sem] theorem h5_z25 : h5.at 25 = [] := rfl
@[go_sem] theorem h5_l26 : h5.lv 26 = [1, 3, 9, 17, 18, 19, 20, 89, 90] := rfl
@[go_sem] theorem h5_g26 : h5.ct 26 = none := rfl
@[go_sem] theorem h5_z26 : h5.at 26 = [] := rfl
@[go_sem] theorem h5_l27 : h5.lv 27 = [1, 3, 9, 17, 18, 19, 20, 89, 90, 101] := rfl
@[go_sem] theorem h5_g27 : h5.ct 27 = none := rfl
@[go_sem] theorem h5_z27 : h5.at 27 = [] := rfl
@[go_sem] theorem h5_l28 : h5.lv 28 = [1, 3, 9, 17, 18, 19, 20, 89, 90] := rfl
@[go_sem] theorem h5_g28 : h5.ct 28 = none := rfl
@[go_sem] theorem h5_z28 : h5.at 28 = [] := rfl
@[go_sem] theorem h5_l29 : h5.lv 29 = [1, 3, 9, 17, 18, 19, 20, 89, 90] := rfl
@[go_sem] theorem h5_g29 : h5.ct 29 = none := rfl
@[go_sem] theorem h5_z29 : h5.at 29 = [] := rfl
@[go_sem] theorem h5_l30 : h5.lv 30 = [1, 3, 9, 17, 89, 90, 120] := rfl
@[go_sem] theorem h5_g30 : h5.ct 30 = none := rfl
@[go_sem] theorem h5_z30 : h5.at 30 = [] := rfl
@[go_sem] theorem h5_l31 : h5.lv 31 = [6] := rfl
@[go_sem] theorem h5_g31 : h5.ct 31 = none := rfl
@[go_sem] theorem h5_z31 : h5.at 31 = [] := rfl
@[go_sem] theorem h5_l32 : h5.lv 32 = [1, 3, 9, 17, 89, 90] := rfl
@[go_sem] theorem h5_g32 : h5.ct 32 = none := rfl
@[go_sem] theorem h5_z32 : h5.at 32 = [] := rfl
@[go_sem] theorem h5_l33 : h5.lv 33 = [6] := rfl
@[go_sem] theorem h5_g33 : h5.ct 33 = none := rfl
@[go_sem] theorem h5_z33 : h5.at 33 = [] := rfl
theorem h5_d : Try.f5.body.any (drawsOk h5) = true := by kernel_rfl
@[go_sem] theorem h5_t : h5.tk = [66, 79] := rfl
@[go_sem] theorem h5_m : h5.mt = [] := rfl
@[go_sem] theorem h5_p : h5.pc = [36, 49, 122] := rfl
def h6 : Hint := ⟨[(0, [1, 3, 5]), (1, [1, 3, 5, 31]), (2, [6]), (3, [1, 3, 5, 7, 8]), (4, [1, 3, 5, 7, 44]), (5, [6]), (6, [1, 3, 5, 7, 47, 48, 49]), (7, [1, 3, 5, 7, 47, 48, 49, 50]), (8, [1, 3, 5, 7, 10, 47, 48, 49]), (9, [1, 3, 5, 7, 10, 47, 48, 49]), (10, [1, 3, 5, 7, 47, 48, 49]), (11, [1, 3, 5, 7, 47, 48, 49]), (12, [1, 3, 5, 7, 11]), (13, [1, 3, 5, 7, 11, 82]), (14, [6]), (15, [1, 3, 5, 7, 11]), (16, [1, 5, 7, 12]), (17, [1, 5, 7, 12, 102]), (18, [6]), (19, [1, 5, 7, 12, 13]), (20, [1, 5, 7, 12, 13, 105]), (21, [1, 5, 7, 12, 13]), (22, [1, 5, 7, 12, 13, 14]), (23, [1, 5, 7, 12, 13, 14, 109, 110, 111]), (24, [1, 5, 7, 12, 13, 14, 109, 110, 111, 112]), (25, [1, 5, 7, 12, 13, 14, 16, 109, 110, 111]), (26, [1, 5, 7, 12, 13, 14, 109, 110, 111]), (27, [1, 5, 7, 12, 13, 14, 109, 110, 111]), (28, [1, 5, 7, 12, 13, 133]), (29, [6]), (30, [6])], [], [71, 77, 87], [], [32, 45, 71, 77, 83, 87, 134], []⟩
@[go_sem] theorem h6_l0 : h6.lv 0 = [1, 3, 5] := rfl
@[go_sem] theorem h6_g0 : h6.ct 0 = none := rfl
@[go_sem] theorem h6_z0 : h6.at 0 = [] := rfl
@[go_sem] theorem h6_l1 : h6.lv 1 = [1, 3, 5, 31] := rfl
@[go_sem] theorem h6_g1 : h6.ct 1 = none := rfl
@[go_sem] theorem h6_z1 : h6.at 1 = [] := rfl
@[go_sem] theorem h6_l2 : h6.lv 2 = [6] := rfl
@[go_sem] theorem h6_g2 : h6.ct 2 = none := rfl
@[go_sem] theorem h6_z2 : h6.at 2 = [] := rfl
@[go_sem] theorem h6_l3 : h6.lv 3 = [1, 3, 5, 7, 8] := rfl
@[go_sem] theorem h6_g3 : h6.ct 3 = none := rfl
@[go_sem] theorem h6_z3 : h6.at 3 = [] := rfl
@[go_sem] theorem h6_l4 : h6.lv 4 = [1, 3, 5, 7, 44] := rfl
@[go_sem] theorem h6_g4 : h6.ct 4 = none := rfl
@[go_sem] theorem h6_z4 : h6.at 4 = [] := rfl
@[go_sem] theorem h6_l5 : h6.lv 5 = [6] := rfl
@[go_sem] theorem h6_g5 : h6.ct 5 = none := rfl
@[go_sem] theorem h6_z5 : h6.at 5 = [] := rfl
@[go_sem] theorem h6_l6 : h6.lv 6 = [1, 3, 5, 7, 47, 48, 49] := rfl
@[go_sem] theorem h6_g6 : h6.ct 6 = none := rfl
@[go_sem] theorem h6_z6 : h6.at 6 = [] := rfl
@[go_sem] theorem h6_l7 : h6.lv 7 = [1, 3, 5, 7, 47, 48, 49, 50] := rfl
@[go_sem] theorem h6_g7 : h6.ct 7 = none := rfl
@[go_sem] theorem h6_z7 : h6.at 7 = [] := rfl
@[go_sem] theorem h6_l8 : h6.lv 8 = [1, 3, 5, 7, 10, 47, 48, 49] := rfl
@[go_sem] theorem h6_g8 : h6.ct 8 = none := rfl
@[go_sem] theorem h6_z8 : h6.at 8 = [] := rfl
@[go_sem] theorem h6_l9 : h6.lv 9 = [1, 3, 5, 7, 10, 47, 48, 49] := rfl
@[go_sem] theorem h6_g9 : h6.ct 9 = none := rfl
@[go_sem] theorem h6_z9 : h6.at 9 = [] := rfl
@[go_sem] theorem h6_l10 : h6.lv 10 = [1, 3, 5, 7, 47, 48, 49] := rfl
@[go_sem] theorem h6_g10 : h6.ct 10 = none := rfl
@[go_sem] theorem h6_z10 : h6.at 10 = [] := rfl
@[go_sem] theorem h6_l11 : h6.lv 11 = [1, 3, 5, 7, 47, 48, 49] := rfl
@[go_sem] theorem h6_g11 : h6.ct 11 = none := rfl
@[go_sem] theorem h6_z11 : h6.at 11 = [] := rfl
@[go_sem] theorem h6_l12 : h6.lv 12 = [1, 3, 5, 7, 11] := rfl
@[go_sem] theorem h6_g12 : h6.ct 12 = none := rfl
@[go_sem] theorem h6_z12 : h6.at 12 = [] := rfl
@[go_sem] theorem h6_l13 : h6.lv 13 = [1, 3, 5, 7, 11, 82] := rfl
@[go_sem] theorem h6_g13 : h6.ct 13 = none := rfl
@[go_sem] theorem h6_z13 : h6.at 13 = [] := rfl
@[go_sem] theorem h6_l14 : h6.lv 14 = [6] := rfl
@[go_sem] theorem h6_g14 : h6.ct 14 = none := rfl
@[go_sem] theorem h6_z14 : h6.at 14 = [] := rfl
@[go_sem] theorem h6_l15 : h6.lv 15 = [1, 3, 5, 7, 11] := rfl
@[go_sem] theorem h6_g15 : h6.ct 15 = none := rfl
@[go_sem] theorem h6_z15 : h6.at 15 = [] := rfl
@[go_sem] theorem h6_l16 : h6.lv 16 = [1, 5, 7, 12] := rfl
@[go_sem] theorem h6_g16 : h6.ct 16 = none := rfl
@[go_sem] theorem h6_z16 : h6.at 16 = [] := rfl
@[go_sem] theorem h6_l17 : h6.lv 17 = [1, 5, 7, 12, 102] := rfl
@[go_sem] theorem h6_g17 : h6.ct 17 = none := rfl
@[go_sem] theorem h6_z17 : h6.at 17 = [] := rfl
@[go_sem] theorem h6_l18 : h6.lv 18 = [6] := rfl
@[go_sem] theorem h6_g18 : h6.ct 18 = none := rfl
@[go_sem] theorem h6_z18 : h6.at 18 = [] := rfl
@[go_sem] theorem h6_l19 : h6.lv 19 = [1, 5, 7, 12, 13] := rfl
@[go_sem] theorem h6_g19 : h6.ct 19 = none := rfl
@[go_sem] theorem h6_z19 : h6.at 19 = [] := rfl
@[go_sem] theorem h6_l20 : h6.lv 20 = [1, 5, 7, 12, 13, 105] := rfl
@[go_sem] theorem h6_g20 : h6.ct 20 = none := rfl
@[go_sem] theorem h6_z20 : h6.at 20 = [] := rfl
@[go_sem] theorem h6_l21 : h6.lv 21 = [1, 5, 7, 12, 13] := rfl
@[go_sem] theorem h6_g21 : h6.ct 21 = none := rfl
@[go_sem] theorem h6_z21 : h6.at 21 = [] := rfl
@[go_sem] theorem h6_l22 : h6.lv 22 = [1, 5, 7, 12, 13, 14] := rfl
@[go_sem] theorem h6_g22 : h6.ct 22 = none := rfl
@[go_sem] theorem h6_z22 : h6.at 22 = [] := rfl
@[go_sem] theorem h6_l23 : h6.lv 23 = [1, 5, 7, 12, 13, 14, 109, 110, 111] := rfl
@[go_sem] theorem h6_g23 : h6.ct 23 = none := rfl
@[go_sem] theorem h6_z23 : h6.at 23 = [] := rfl
@[go_sem] theorem h6_l24 : h6.lv 24 = [1, 5, 7, 12, 13, 14, 109, 110, 111, 112] := rfl
@[go_sem] theorem h6_g24 : h6.ct 24 = none := rfl
@[go_sem] theorem h6_z24 : h6.at 24 = [] := rfl
@[go_sem] theorem h6_l25 : h6.lv 25 = [1, 5, 7, 12, 13, 14, 16, 109, 110, 111] := rfl
@[go_sem] theorem h6_g25 : h6.ct 25 = none := rfl
@[go_sem] theorem h6_z25 : h6.at 25 = [] := rfl
@[go_sem] theorem h6_l26 : h6.lv 26 = [1, 5, 7, 12, 13, 14, 109, 110, 111] := rfl
@[go_sem] theorem h6_g26 : h6.ct 26 = none := rfl
@[go_sem] theorem h6_z26 : h6.at 26 = [] := rfl
@[go_sem] theorem h6_l27 : h6.lv 27 = [1, 5, 7, 12, 13, 14, 109, 110, 111] := rfl
@[go_sem] theorem h6_g27 : h6.ct 27 = none := rfl
@[go_sem] theorem h6_z27 : h6.at 27 = [] := rfl
@[go_sem] theorem h6_l28 : h6.lv 28 = [1, 5, 7, 12, 13, 133] := rfl
@[go_sem] theorem h6_g28 : h6.ct 28 = none := rfl
@[go_sem] theorem h6_z28 : h6.at 28 = [] := rfl
@[go_sem] theorem h6_l29 : h6.lv 29 = [6] := rfl
@[go_sem] theorem h6_g29 : h6.ct 29 = none := rfl
@[go_sem] theorem h6_z29 : h6.at 29 = [] := rfl
@[go_sem] theorem h6_l30 : h6.lv 30 = [6] := rfl
@[go_sem] theorem h6_g30 : h6.ct 30 = none := rfl
@[go_sem] theorem h6_z30 : h6.at 30 = [] := rfl
theorem h6_d : Try.f6.body.any (drawsOk h6) = true := by kernel_rfl
@[go_sem] theorem h6_t : h6.tk = [] := rfl
@[go_sem] theorem h6_m : h6.mt = [71, 77, 87] := rfl
@[go_sem] theorem h6_p : h6.pc = [32, 45, 71, 77, 83, 87, 134] := rfl
def h7 : Hint := ⟨[(0, [1, 2]), (1, [1, 2, 35]), (2, [4]), (3, [1, 2, 5, 6]), (4, [1, 2, 5, 6, 7, 8]), (5, [1, 2, 5, 6, 7, 8, 62]), (6, [4]), (7, [1, 5, 7, 70, 71, 72]), (8, [1, 5, 7, 70, 71, 72, 73]), (9, [1, 5, 7, 10, 70, 71, 72]), (10, [1, 5, 7, 10, 11, 70, 71, 72]), (11, [1, 5, 7, 10, 11, 13, 14, 70, 71, 72]), (12, [1, 5, 7, 10, 13, 14, 70, 71, 72, 82, 83, 84]), (13, [1, 5, 7, 10, 13, 14, 70, 71, 72, 82, 83, 84, 85]), (14, [1, 5, 7, 10, 13, 14, 16, 70, 71, 72, 82, 83, 84]), (15, [1, 5, 7, 10, 13, 14, 16, 70, 71, 72, 82, 83, 84, 91]), (16, [1, 5, 7, 10, 13, 14, 70, 71, 72, 82, 83, 84]), (17, [1, 5, 7, 10, 13, 14, 70, 71, 72, 82, 83, 84]), (18, [1, 5, 7, 10, 13, 14, 70, 71, 72, 105]), (19, [1, 5, 7, 13, 14, 70, 71, 72]), (20, [1, 5, 7, 13, 14, 17, 70, 71, 72]), (21, [1, 5, 7, 13, 14, 17, 19, 70, 71, 72]), (22, [1, 5, 7, 70, 71, 72, 132]), (23, [4]), (24, [1, 5, 7, 70, 71, 72]), (25, [4])], [82, 92, 124, 125], [115, 121], [], [36, 63, 115, 121, 126, 134], []⟩
@[go_sem] theorem h7_l0 : h7.lv 0 = [1, 2] := rfl
@[go_sem] theorem h7_g0 : h7.ct 0 = none := rfl
@[go_sem] theorem h7_z0 : h7.at 0 = [] := rfl
@[go_sem] theorem h7_l1 : h7.lv 1 = [1, 2, 35] := rfl
@[go_sem] theorem h7_g1 : h7.ct 1 = none := rfl
@[go_sem] theorem h7_z1 : h7.at 1 = [] := rfl
@[go_sem] theorem h7_l2 : h7.lv 2 = [4] := rfl
@[go_sem] theorem h7_g2 : h7.ct 2 = none := rfl
@[go_sem] theorem h7_z2 : h7.at 2 = [] := rfl
@[go_sem] theorem h7_l3 : h7.lv 3 = [1, 2, 5, 6] := rfl
@[go_sem] theorem h7_g3 : h7.ct 3 = none := rfl
@[go_sem] theorem h7_z3 : h7.at 3 = [] := rfl
@[go_sem] theorem h7_l4 : h7.lv 4 = [1, 2, 5, 6, 7, 8] := rfl
@[go_sem] theorem h7_g4 : h7.ct 4 = none := rfl
@[go_sem] theorem h7_z4 : h7.at 4 = [] := rfl
@[go_sem] theorem h7_l5 : h7.lv 5 = [1, 2, 5, 6, 7, 8, 62] := rfl
@[go_sem] theorem h7_g5 : h7.ct 5 = none := rfl
@[go_sem] theorem h7_z5 : h7.at 5 = [] := rfl
@[go_sem] theorem h7_l6 : h7.lv 6 = [4] := rfl
@[go_sem] theorem h7_g6 : h7.ct 6 = none := rfl
@[go_sem] theorem h7_z6 : h7.at 6 = [] := rfl
@[go_sem] theorem h7_l7 : h7.lv 7 = [1, 5, 7, 70, 71, 72] := rfl
@[go_sem] theorem h7_g7 : h7.ct 7 = none := rfl
@[go_sem] theorem h7_z7 : h7.at 7 = [] := rfl
@[go_sem] theorem h7_l8 : h7.lv 8 = [1, 5, 7, 70, 71, 72, 73] := rfl
@[go_sem] theorem h7_g8 : h7.ct 8 = none := rfl
@[go_sem] theorem h7_z8 : h7.at 8 = [] := rfl
@[go_sem] theorem h7_l9 : h7.lv 9 = [1, 5, 7, 10, 70, 71, 72] := rfl
@[go_sem] theorem h7_g9 : h7.ct 9 = none := rfl
@[go_sem] theorem h7_z9 : h7.at 9 = [] := rfl
@[go_sem] theorem h7_l10 : h7.lv 10 = [1, 5, 7, 10, 11, 70, 71, 72] := rfl
@[go_sem] theorem h7_g10 : h7.ct 10 = none := rfl
@[go_sem] theorem h7_z10 : h7.at 10 = [] := rfl
@[go_sem] theorem h7_l11 : h7.lv 11 = [1, 5, 7, 10, 11, 13, 14, 70, 71, 72] := rfl
@[go_sem] theorem h7_g11 : h7.ct 11 = none := rfl
@[go_sem] theorem h7_z11 : h7.at 11 = [] := rfl
@[go_sem] theorem h7_l12 : h7.lv 12 = [1, 5, 7, 10, 13, 14, 70, 71, 72, 82, 83, 84] := rfl
@[go_sem] theorem h7_g12 : h7.ct 12 = none := rfl
@[go_sem] theorem h7_z12 : h7.at 12 = [] := rfl
@[go_sem] theorem h7_l13 : h7.lv 13 = [1, 5, 7, 10, 13, 14, 70, 71, 72, 82, 83, 84, 85] := rfl
@[go_sem] theorem h7_g13 : h7.ct 13 = none := rfl
@[go_sem] theorem h7_z13 : h7.at 13 = [] := rfl
@[go_sem] theorem h7_l14 : h7.lv 14 = [1, 5, 7, 10, 13, 14, 16, 70, 71, 72, 82, 83, 84] := rfl
@[go_sem] theorem h7_g14 : h7.ct 14 = none := rfl
@[go_sem] theorem h7_z14 : h7.at 14 = [] := rfl
@[go_sem] theorem h7_l15 : h7.lv 15 = [1, 5, 7, 10, 13, 14, 16, 70, 71, 72, 82, 83, 84, 91] := rfl
@[go_sem] theorem h7_g15 : h7.ct 15 = none := rfl
@[go_sem] theorem h7_z15 : h7.at 15 = [] := rfl
@[go_sem] theorem h7_l16 : h7.lv 16 = [1, 5, 7, 10, 13, 14, 70, 71, 72, 82, 83, 84] := rfl
@[go_sem] theorem h7_g16 : h7.ct 16 = none := rfl
@[go_sem] theorem h7_z16 : h7.at 16 = [] := rfl
@[go_sem] theorem h7_l17 : h7.lv 17 = [1, 5, 7, 10, 13, 14, 70, 71, 72, 82, 83, 84] := rfl
@[go_sem] theorem h7_g17 : h7.ct 17 = none := rfl
@[go_sem] theorem h7_z17 : h7.at 17 = [] := rfl
@[go_sem] theorem h7_l18 : h7.lv 18 = [1, 5, 7, 10, 13, 14, 70, 71, 72, 105] := rfl
@[go_sem] theorem h7_g18 : h7.ct 18 = none := rfl
@[go_sem] theorem h7_z18 : h7.at 18 = [] := rfl
@[go_sem] theorem h7_l19 : h7.lv 19 = [1, 5, 7, 13, 14, 70, 71, 72] := rfl
@[go_sem] theorem h7_g19 : h7.ct 19 = none := rfl
@[go_sem] theorem h7_z19 : h7.at 19 = [] := rfl
@[go_sem] theorem h7_l20 : h7.lv 20 = [1, 5, 7, 13, 14, 17, 70, 71, 72] := rfl
@[go_sem] theorem h7_g20 : h7.ct 20 = none := rfl
@[go_sem] theorem h7_z20 : h7.at 20 = [] := rfl
@[go_sem] theorem h7_l21 : h7.lv 21 = [1, 5, 7, 13, 14, 17, 19, 70, 71, 72] := rfl
@[go_sem] theorem h7_g21 : h7.ct 21 = none := rfl
@[go_sem] theorem h7_z21 : h7.at 21 = [] := rfl
@[go_sem] theorem h7_l22 : h7.lv 22 = [1, 5, 7, 70, 71, 72, 132] := rfl
@[go_sem] theorem h7_g22 : h7.ct 22 = none := rfl
@[go_sem] theorem h7_z22 : h7.at 22 = [] := rfl
@[go_sem] theorem h7_l23 : h7.lv 23 = [4] := rfl
@[go_sem] theorem h7_g23 : h7.ct 23 = none := rfl
@[go_sem] theorem h7_z23 : h7.at 23 = [] := rfl
@[go_sem] theorem h7_l24 : h7.lv 24 = [1, 5, 7, 70, 71, 72] := rfl
@[go_sem] theorem h7_g24 : h7.ct 24 = none := rfl
@[go_sem] theorem h7_z24 : h7.at 24 = [] := rfl
@[go_sem] theorem h7_l25 : h7.lv 25 = [4] := rfl
@[go_sem] theorem h7_g25 : h7.ct 25 = none := rfl
@[go_sem] theorem h7_z25 : h7.at 25 = [] := rfl
theorem h7_d : Try.f7.body.any (drawsOk h7) = true := by kernel_rfl
@[go_sem] theorem h7_t : h7.tk = [82, 92, 124, 125] := rfl
@[go_sem] theorem h7_m : h7.mt = [115, 121] := rfl
@[go_sem] theorem h7_p : h7.pc = [36, 63, 115, 121, 126, 134] := rfl
def h8 : Hint := ⟨[(0, [1, 2]), (1, [1, 2, 20]), (2, [4]), (3, [1, 2, 5, 6]), (4, [1, 2, 5, 6, 7, 8]), (5, [1, 2, 5, 7, 47]), (6, [4]), (7, [1, 2, 5, 7, 9]), (8, [1, 2, 5, 7, 9, 52]), (9, [2, 5, 7, 9]), (10, [2, 5, 7, 9, 62, 63, 64]), (11, [2, 5, 7, 9, 62, 63, 64, 65]), (12, [2, 5, 7, 9, 11, 62, 63, 64]), (13, [2, 5, 7, 9, 11, 62, 63, 64]), (14, [2, 5, 7, 9, 62, 63, 64]), (15, [2, 5, 7, 9, 62, 63, 64]), (16, [2, 5, 7, 9, 12]), (17, [2, 5, 7, 9, 12, 88]), (18, [4]), (19, [2, 5, 7, 9, 12, 13]), (20, [2, 5, 7, 9, 12, 13, 93, 94, 95]), (21, [2, 5, 7, 9, 12, 13, 93, 94, 95, 96]), (22, [2, 5, 7, 9, 12, 13, 15, 93, 94, 95]), (23, [2, 5, 7, 9, 12, 13, 15, 93, 94, 95]), (24, [2, 5, 7, 9, 12, 13, 93, 94, 95]), (25, [2, 5, 7, 9, 12, 13, 93, 94, 95]), (26, [2, 5, 7, 9, 12, 13, 119]), (27, [4]), (28, [2, 5, 7, 12, 13, 124, 125]), (29, [2, 5, 7, 12, 13, 124, 125, 126]), (30, [2, 5, 7, 12, 13, 16, 124, 125]), (31, [2, 5, 7, 12, 13, 17, 124, 125]), (32, [2, 5, 7, 12, 13, 17, 124, 125]), (33, [2, 5, 7, 12, 13, 124, 125]), (34, [2, 5, 7, 12, 13, 124, 125]), (35, [4])], [], [86, 112, 117, 153, 158], [], [21, 39, 48, 74, 86, 105, 112, 117, 144, 149, 153, 158], []⟩
@[go_sem] theorem h8_l0 : h8.lv 0 = [1, 2] := rfl
@[go_sem] theorem h8_g0 : h8.ct 0 = none := rfl
@[go_sem] theorem h8_z0 : h8.at 0 = [] := rfl
@[go_sem] theorem h8_l1 : h8.lv 1 = [1, 2, 20] := rfl
@[go_sem] theorem h8_g1 : h8.ct 1 = none := rfl
@[go_sem] theorem h8_z1 : h8.at 1 = [] := rfl
@[go_sem] theorem h8_l2 : h8.lv 2 = [4] := rfl
@[go_sem] theorem h8_g2 : h8.ct 2 = none := rfl
@[go_sem] theorem h8_z2 : h8.at 2 = [] := rfl
@[go_sem] theorem h8_l3 : h8.lv 3 = [1, 2, 5, 6] := rfl
@[go_sem] theorem h8_g3 : h8.ct 3 = none := rfl
@[go_sem] theorem h8_z3 : h8.at 3 = [] := rfl
@[go_sem] theorem h8_l4 : h8.lv 4 = [1, 2, 5, 6, 7, 8] := rfl
@[go_sem] theorem h8_g4 : h8.ct 4 = none := rfl
@[go_sem] theorem h8_z4 : h8.at 4 = [] := rfl
@[go_sem] theorem h8_l5 : h8.lv 5 = [1, 2, 5, 7, 47] := rfl
@[go_sem] theorem h8_g5 : h8.ct 5 = none := rfl
@[go_sem] theorem h8_z5 : h8.at 5 = [] := rfl
@[go_sem] theorem h8_l6 : h8.lv 6 = [4] := rfl
@[go_sem] theorem h8_g6 : h8.ct 6 = none := rfl
@[go_sem] theorem h8_z6 : h8.at 6 = [] := rfl
@[go_sem] theorem h8_l7 : h8.lv 7 = [1, 2, 5, 7, 9] := rfl
@[go_sem] theorem h8_g7 : h8.ct 7 = none := rfl
@[go_sem] theorem h8_z7 : h8.at 7 = [] := rfl
@[go_sem] theorem h8_l8 : h8.lv 8 = [1, 2, 5, 7, 9, 52] := rfl
@[go_sem] theorem h8_g8 : h8.ct 8 = none := rfl
@[go_sem] theorem h8_z8 : h8.at 8 = [] := rfl
@[go_sem] theorem h8_l9 : h8.lv 9 = [2, 5, 7, 9] := rfl
@[go_sem] theorem h8_g9 : h8.ct 9 = none := rfl
@[go_sem] theorem h8_z9 : h8.at 9 = [] := rfl
@[go_sem] theorem h8_l10 : h8.lv 10 = [2, 5, 7, 9, 62, 63, 64] := rfl
@[go_sem] theorem h8_g10 : h8.ct 10 = none := rfl
@[go_sem] theorem h8_z10 : h8.at 10 = [] := rfl
@[go_sem] theorem h8_l11 : h8.lv 11 = [2, 5, 7, 9, 62, 63, 64, 65] := rfl
@[go_sem] theorem h8_g11 : h8.ct 11 = none := rfl
@[go_sem] theorem h8_z11 : h8.at 11 = [] := rfl
@[go_sem] theorem h8_l12 : h8.lv 12 = [2, 5, 7, 9, 11, 62, 63, 64] := rfl
@[go_sem] theorem h8_g12 : h8.ct 12 = none := rfl
@[go_sem] theorem h8_z12 : h8.at 12 = [] := rfl
@[go_sem] theorem h8_l13 : h8.lv 13 = [2, 5, 7, 9, 11, 62, 63, 64] := rfl
@[go_sem] theorem h8_g13 : h8.ct 13 = none := rfl
@[go_sem] theorem h8_z13 : h8.at 13 = [] := rfl
@[go_sem] theorem h8_l14 : h8.lv 14 = [2, 5, 7, 9, 62, 63, 64] := rfl
@[go_sem] theorem h8_g14 : h8.ct 14 = none := rfl
@[go_sem] theorem h8_z14 : h8.at 14 = [] := rfl
@[go_sem] theorem h8_l15 : h8.lv 15 = [2, 5, 7, 9, 62, 63, 64] := rfl
@[go_sem] theorem h8_g15 : h8.ct 15 = none := rfl
@[go_sem] theorem h8_z15 : h8.at 15 = [] := rfl
@[go_sem] theorem h8_l16 : h8.lv 16 = [2, 5, 7, 9, 12] := rfl
@[go_sem] theorem h8_g16 : h8.ct 16 = none := rfl
@[go_sem] theorem h8_z16 : h8.at 16 = [] := rfl
@[go_sem] theorem h8_l17 : h8.lv 17 = [2, 5, 7, 9, 12, 88] := rfl
@[go_sem] theorem h8_g17 : h8.ct 17 = none := rfl
@[go_sem] theorem h8_z17 : h8.at 17 = [] := rfl
@[go_sem] theorem h8_l18 : h8.lv 18 = [4] := rfl
@[go_sem] theorem h8_g18 : h8.ct 18 = none := rfl
@[go_sem] theorem h8_z18 : h8.at 18 = [] := rfl
@[go_sem] theorem h8_l19 : h8.lv 19 = [2, 5, 7, 9, 12, 13] := rfl
@[go_sem] theorem h8_g19 : h8.ct 19 = none := rfl
@[go_sem] theorem h8_z19 : h8.at 19 = [] := rfl
@[go_sem] theorem h8_l20 : h8.lv 20 = [2, 5, 7, 9, 12, 13, 93, 94, 95] := rfl
@[go_sem] theorem h8_g20 : h8.ct 20 = none := rfl
@[go_sem] theorem h8_z20 : h8.at 20 = [] := rfl
@[go_sem] theorem h8_l21 : h8.lv 21 = [2, 5, 7, 9, 12, 13, 93, 94, 95, 96] := rfl
@[go_sem] theorem h8_g21 : h8.ct 21 = none := rfl
@[go_sem] theorem h8_z21 : h8.at 21 = [] := rfl
@[go_sem] theorem h8_l22 : h8.lv 22 = [2, 5, 7, 9, 12, 13, 15, 93, 94, 95] := rfl
@[go_sem] theorem h8_g22 : h8.ct 22 = none := rfl
@[go_sem] theorem h8_z22 : h8.at 22 = [] := rfl
@[go_sem] theorem h8_l23 : h8.lv 23 = [2, 5, 7, 9, 12, 13, 15, 93, 94, 95] := rfl
@[go_sem] theorem h8_g23 : h8.ct 23 = none := rfl
@[go_sem] theorem h8_z23 : h8.at 23 = [] := rfl
@[go_sem] theorem h8_l24 : h8.lv 24 = [2, 5, 7, 9, 12, 13, 93, 94, 95] := rfl
@[go_sem] theorem h8_g24 : h8.ct 24 = none := rfl
@[go_sem] theorem h8_z24 : h8.at 24 = [] := rfl
@[go_sem] theorem h8_l25 : h8.lv 25 = [2, 5, 7, 9, 12, 13, 93, 94, 95] := rfl
@[go_sem] theorem h8_g25 : h8.ct 25 = none := rfl
@[go_sem] theorem h8_z25 : h8.at 25 = [] := rfl
@[go_sem] theorem h8_l26 : h8.lv 26 = [2, 5, 7, 9, 12, 13, 119] := rfl
@[go_sem] theorem h8_g26 : h8.ct 26 = none := rfl
@[go_sem] theorem h8_z26 : h8.at 26 = [] := rfl
@[go_sem] theorem h8_l27 : h8.lv 27 = [4] := rfl
@[go_sem] theorem h8_g27 : h8.ct 27 = none := rfl
@[go_sem] theorem h8_z27 : h8.at 27 = [] := rfl
@[go_sem] theorem h8_l28 : h8.lv 28 = [2, 5, 7, 12, 13, 124, 125] := rfl
@[go_sem] theorem h8_g28 : h8.ct 28 = none := rfl
@[go_sem] theorem h8_z28 : h8.at 28 = [] := rfl
@[go_sem] theorem h8_l29 : h8.lv 29 = [2, 5, 7, 12, 13, 124, 125, 126] := rfl
@[go_sem] theorem h8_g29 : h8.ct 29 = none := rfl
@[go_sem] theorem h8_z29 : h8.at 29 = [] := rfl
@[go_sem] theorem h8_l30 : h8.lv 30 = [2, 5, 7, 12, 13, 16, 124, 125] := rfl
@[go_sem] theorem h8_g30 : h8.ct 30 = none := rfl
@[go_sem] theorem h8_z30 : h8.at 30 = [] := rfl
@[go_sem] theorem h8_l31 : h8.lv 31 = [2, 5, 7, 12, 13, 17, 124, 125] := rfl
@[go_sem] theorem h8_g31 : h8.ct 31 = none := rfl
@[go_sem] theorem h8_z31 : h8.at 31 = [] := rfl
@[go_sem] theorem h8_l32 : h8.lv 32 = [2, 5, 7, 12, 13, 17, 124, 125] := rfl
@[go_sem] theorem h8_g32 : h8.ct 32 = none := rfl
@[go_sem] theorem h8_z32 : h8.at 32 = [] := rfl
@[go_sem] theorem h8_l33 : h8.lv 33 = [2, 5, 7, 12, 13, 124, 125] := rfl
@[go_sem] theorem h8_g33 : h8.ct 33 = none := rfl
@[go_sem] theorem h8_z33 : h8.at 33 = [] := rfl
@[go_sem] theorem h8_l34 : h8.lv 34 = [2, 5, 7, 12, 13, 124, 125] := rfl
@[go_sem] theorem h8_g34 : h8.ct 34 = none := rfl
@[go_sem] theorem h8_z34 : h8.at 34 = [] := rfl
@[go_sem] theorem h8_l35 : h8.lv 35 = [4] := rfl
@[go_sem] theorem h8_g35 : h8.ct 35 = none := rfl
@[go_sem] theorem h8_z35 : h8.at 35 = [] := rfl
theorem h8_d : Try.f8.body.any (drawsOk h8) = true := by kernel_rfl
@[go_sem] theorem h8_t : h8.tk = [] := rfl
@[go_sem] theorem h8_m : h8.mt = [86, 112, 117, 153, 158] := rfl
@[go_sem] theorem h8_p : h8.pc = [21, 39, 48, 74, 86, 105, 112, 117, 144, 149, 153, 158] := rfl
def h9 : Hint := ⟨[(0, [1]), (1, [2])], [], [], [], [5], []⟩
@[go_sem] theorem h9_l0 : h9.lv 0 = [1] := rfl
@[go_sem] theorem h9_g0 : h9.ct 0 = none := rfl
@[go_sem] theorem h9_z0 : h9.at 0 = [] := rfl
@[go_sem] theorem h9_l1 : h9.lv 1 = [2] := rfl
@[go_sem] theorem h9_g1 : h9.ct 1 = none := rfl
@[go_sem] theorem h9_z1 : h9.at 1 = [] := rfl
theorem h9_d : Try.f9.body.any (drawsOk h9) = true := by kernel_rfl
@[go_sem] theorem h9_t : h9.tk = [] := rfl
@[go_sem] theorem h9_m : h9.mt = [] := rfl
@[go_sem] theorem h9_p : h9.pc = [5] := rfl
def h10 : Hint := ⟨[(0, [0]), (1, [1]), (2, [1]), (3, [1, 2, 3]), (4, [2, 3, 5]), (5, [2, 45]), (6, [0]), (7, [2, 6]), (8, [2, 6, 47]), (9, [2, 6]), (10, [2, 6, 7]), (11, [2, 6, 66]), (12, [0]), (13, [2, 8]), (14, [2, 8, 9, 10]), (15, [2, 8, 9, 10, 11, 12, 13]), (16, [2, 129]), (17, [0]), (18, [2, 14, 15]), (19, [2, 14, 15, 16, 17]), (20, [2, 14, 15, 16, 17, 18]), (21, [0])], [79, 81, 84, 94, 106, 118], [70, 72, 127, 137, 168, 172, 176], [(2, [(1, some 1, true)])], [70, 72, 127, 137, 168, 172, 176], []⟩
@[go_sem] theorem h10_l0 : h10.lv 0 = [0] := rfl
@[go_sem] theorem h10_g0 : h10.ct 0 = none := rfl
@[go_sem] theorem h10_z0 : h10.at 0 = [] := rfl
@[go_sem] theorem h10_l1 : h10.lv 1 = [1] := rfl
@[go_sem] theorem h10_g1 : h10.ct 1 = none := rfl
@[go_sem] theorem h10_z1 : h10.at 1 = [] := rfl
@[go_sem] theorem h10_l2 : h10.lv 2 = [1] := rfl
@[go_sem] theorem h10_g2 : h10.ct 2 = none := rfl
@[go_sem] theorem h10_z2 : h10.at 2 = [(1, some 1, true)] := rfl
@[go_sem] theorem h10_l3 : h10.lv 3 = [1, 2, 3] := rfl
@[go_sem] theorem h10_g3 : h10.ct 3 = none := rfl
@[go_sem] theorem h10_z3 : h10.at 3 = [] := rfl
@[go_sem] theorem h10_l4 : h10.lv 4 = [2, 3, 5] := rfl
@[go_sem] theorem h10_g4 : h10.ct 4 = none := rfl
@[go_sem] theorem h10_z4 : h10.at 4 = [] := rfl
@[go_sem] theorem h10_l5 : h10.lv 5 = [2, 45] := rfl
@[go_sem] theorem h10_g5 : h10.ct 5 = none := rfl
@[go_sem] theorem h10_z5 : h10.at 5 = [] := rfl
@[go_sem] theorem h10_l6 : h10.lv 6 = [0] := rfl
@[go_sem] theorem h10_g6 : h10.ct 6 = none := rfl
@[go_sem] theorem h10_z6 : h10.at 6 = [] := rfl
@[go_sem] theorem h10_l7 : h10.lv 7 = [2, 6] := rfl
@[go_sem] theorem h10_g7 : h10.ct 7 = none := rfl
@[go_sem] theorem h10_z7 : h10.at 7 = [] := rfl
@[go_sem] theorem h10_l8 : h10.lv 8 = [2, 6, 47] := rfl
@[go_sem] theorem h10_g8 : h10.ct 8 = none := rfl
@[go_sem] theorem h10_z8 : h10.at 8 = [] := rfl
@[go_sem] theorem h10_l9 : h10.lv 9 = [2, 6] := rfl
@[go_sem] theorem h10_g9 : h10.ct 9 = none := rfl
@[go_sem] theorem h10_z9 : h10.at 9 = [] := rfl
@[go_sem] theorem h10_l10 : h10.lv 10 = [2, 6, 7] := rfl
@[go_sem] theorem h10_g10 : h10.ct 10 = none := rfl
@[go_sem] theorem h10_z10 : h10.at 10 = [] := rfl
@[go_sem] theorem h10_l11 : h10.lv 11 = [2, 6, 66] := rfl
@[go_sem] theorem h10_g11 : h10.ct 11 = none := rfl
@[go_sem] theorem h10_z11 : h10.at 11 = [] := rfl
@[go_sem] theorem h10_l12 : h10.lv 12 = [0] := rfl
@[go_sem] theorem h10_g12 : h10.ct 12 = none := rfl
@[go_sem] theorem h10_z12 : h10.at 12 = [] := rfl
@[go_sem] theorem h10_l13 : h10.lv 13 = [2, 8] := rfl
@[go_sem] theorem h10_g13 : h10.ct 13 = none := rfl
@[go_sem] theorem h10_z13 : h10.at 13 = [] := rfl
@[go_sem] theorem h10_l14 : h10.lv 14 = [2, 8, 9, 10] := rfl
@[go_sem] theorem h10_g14 : h10.ct 14 = none := rfl
@[go_sem] theorem h10_z14 : h10.at 14 = [] := rfl
@[go_sem] theorem h10_l15 : h10.lv 15 = [2, 8, 9, 10, 11, 12, 13] := rfl
@[go_sem] theorem h10_g15 : h10.ct 15 = none := rfl
@[go_sem] theorem h10_z15 : h10.at 15 = [] := rfl
@[go_sem] theorem h10_l16 : h10.lv 16 = [2, 129] := rfl
@[go_sem] theorem h10_g16 : h10.ct 16 = none := rfl
@[go_sem] theorem h10_z16 : h10.at 16 = [] := rfl
@[go_sem] theorem h10_l17 : h10.lv 17 = [0] := rfl
@[go_sem] theorem h10_g17 : h10.ct 17 = none := rfl
@[go_sem] theorem h10_z17 : h10.at 17 = [] := rfl
@[go_sem] theorem h10_l18 : h10.lv 18 = [2, 14, 15] := rfl
@[go_sem] theorem h10_g18 : h10.ct 18 = none := rfl
@[go_sem] theorem h10_z18 : h10.at 18 = [] := rfl
@[go_sem] theorem h10_l19 : h10.lv 19 = [2, 14, 15, 16, 17] := rfl
@[go_sem] theorem h10_g19 : h10.ct 19 = none := rfl
@[go_sem] theorem h10_z19 : h10.at 19 = [] := rfl
@[go_sem] theorem h10_l20 : h10.lv 20 = [2, 14, 15, 16, 17, 18] := rfl
@[go_sem] theorem h10_g20 : h10.ct 20 = none := rfl
@[go_sem] theorem h10_z20 : h10.at 20 = [] := rfl
@[go_sem] theorem h10_l21 : h10.lv 21 = [0] := rfl
@[go_sem] theorem h10_g21 : h10.ct 21 = none := rfl
@[go_sem] theorem h10_z21 : h10.at 21 = [] := rfl
theorem h10_d : Try.f10.body.any (drawsOk h10) = true := by kernel_rfl
@[go_sem] theorem h10_t : h10.tk = [79, 81, 84, 94, 106, 118] := rfl
@[go_sem] theorem h10_m : h10.mt = [70, 72, 127, 137, 168, 172, 176] := rfl
@[go_sem] theorem h10_p : h10.pc = [70, 72, 127, 137, 168, 172, 176] := rfl
def h11 : Hint := ⟨[(0, [1, 2, 3]), (1, [1, 2, 3, 8]), (2, [1, 2, 3, 29]), (3, [6, 7]), (4, [1, 3, 9]), (5, [1, 3, 9, 40, 41]), (6, [1, 3, 9, 40, 41, 42]), (7, [1, 3, 9, 10, 40, 41]), (8, [1, 3, 9, 40, 41]), (9, [1, 3, 9, 40, 41]), (10, [6, 7])], [], [], [], [20], []⟩
@[go_sem] theorem h11_l0 : h11.lv 0 = [1, 2, 3] := rfl
@[go_sem] theorem h11_g0 : h11.ct 0 = none := rfl
@[go_sem] theorem h11_z0 : h11.at 0 = [] := rfl
@[go_sem] theorem h11_l1 : h11.lv 1 = [1, 2, 3, 8] := rfl
@[go_sem] theorem h11_g1 : h11.ct 1 = none := rfl
@[go_sem] theorem h11_z1 : h11.at 1 = [] := rfl
@[go_sem] theorem h11_l2 : h11.lv 2 = [1, 2, 3, 29] := rfl
@[go_sem] theorem h11_g2 : h11.ct 2 = none := rfl
@[go_sem] theorem h11_z2 : h11.at 2 = [] := rfl
@[go_sem] theorem h11_l3 : h11.lv 3 = [6, 7] := rfl
@[go_sem] theorem h11_g3 : h11.ct 3 = none := rfl
@[go_sem] theorem h11_z3 : h11.at 3 = [] := rfl
@[go_sem] theorem h11_l4 : h11.lv 4 = [1, 3, 9] := rfl
@[go_sem] theorem h11_g4 : h11.ct 4 = none := rfl
@[go_sem] theorem h11_z4 : h11.at 4 = [] := rfl
@[go_sem] theorem h11_l5 : h11.lv 5 = [1, 3, 9, 40, 41] := rfl
@[go_sem] theorem h11_g5 : h11.ct 5 = none := rfl
@[go_sem] theorem h11_z5 : h11.at 5 = [] := rfl
@[go_sem] theorem h11_l6 : h11.lv 6 = [1, 3, 9, 40, 41, 42] := rfl
@[go_sem] theorem h11_g6 : h11.ct 6 = none := rfl
@[go_sem] theorem h11_z6 : h11.at 6 = [] := rfl
@[go_sem] theorem h11_l7 : h11.lv 7 = [1, 3, 9, 10, 40, 41] := rfl
@[go_sem] theorem h11_g7 : h11.ct 7 = none := rfl
@[go_sem] theorem h11_z7 : h11.at 7 = [] := rfl
@[go_sem] theorem h11_l8 : h11.lv 8 = [1, 3, 9, 40, 41] := rfl
@[go_sem] theorem h11_g8 : h11.ct 8 = none := rfl
@[go_sem] theorem h11_z8 : h11.at 8 = [] := rfl
@[go_sem] theorem h11_l9 : h11.lv 9 = [1, 3, 9, 40, 41] := rfl
@[go_sem] theorem h11_g9 : h11.ct 9 = none := rfl
@[go_sem] theorem h11_z9 : h11.at 9 = [] := rfl
@[go_sem] theorem h11_l10 : h11.lv 10 = [6, 7] := rfl
@[go_sem] theorem h11_g10 : h11.ct 10 = none := rfl
@[go_sem] theorem h11_z10 : h11.at 10 = [] := rfl
theorem h11_d : Try.f11.body.any (drawsOk h11) = true := by kernel_rfl
@[go_sem] theorem h11_t : h11.tk = [] := rfl
@[go_sem] theorem h11_m : h11.mt = [] := rfl
@[go_sem] theorem h11_p : h11.pc = [20] := rfl
def h12 : Hint := ⟨[(0, [1, 2, 3, 6]), (1, [1, 2, 3, 6, 8]), (2, [1, 2, 3, 6, 16]), (3, [6, 7]), (4, [3, 6, 9]), (5, [3, 6, 9, 10]), (6, [3, 6, 9, 10, 26]), (7, [3, 6, 9, 10]), (8, [3, 6, 9, 10]), (9, [6, 7])], [19, 30], [], [], [14], []⟩
@[go_sem] theorem h12_l0 : h12.lv 0 = [1, 2, 3, 6] := rfl
@[go_sem] theorem h12_g0 : h12.ct 0 = none := rfl
@[go_sem] theorem h12_z0 : h12.at 0 = [] := rfl
@[go_sem] theorem h12_l1 : h12.lv 1 = [1, 2, 3, 6, 8] := rfl
@[go_sem] theorem h12_g1 : h12.ct 1 = none := rfl
@[go_sem] theorem h12_z1 : h12.at 1 = [] := rfl
@[go_sem] theorem h12_l2 : h12.lv 2 = [1, 2, 3, 6, 16] := rfl
@[go_sem] theorem h12_g2 : h12.ct 2 = none := rfl
@[go_sem] theorem h12_z2 : h12.at 2 = [] := rfl
@[go_sem] theorem h12_l3 : h12.lv 3 = [6, 7] := rfl
@[go_sem] theorem h12_g3 : h12.ct 3 = none := rfl
@[go_sem] theorem h12_z3 : h12.at 3 = [] := rfl
@[go_sem] theorem h12_l4 : h12.lv 4 = [3, 6, 9] := rfl
@[go_sem] theorem h12_g4 : h12.ct 4 = none := rfl
@[go_sem] theorem h12_z4 : h12.at 4 = [] := rfl
@[go_sem] theorem h12_l5 : h12.lv 5 = [3, 6, 9, 10] := rfl
@[go_sem] theorem h12_g5 : h12.ct 5 = none := rfl
@[go_sem] theorem h12_z5 : h12.at 5 = [] := rfl
@[go_sem] theorem h12_l6 : h12.lv 6 = [3, 6, 9, 10, 26] := rfl
@[go_sem] theorem h12_g6 : h12.ct 6 = none := rfl
@[go_sem] theorem h12_z6 : h12.at 6 = [] := rfl
@[go_sem] theorem h12_l7 : h12.lv 7 = [3, 6, 9, 10] := rfl
@[go_sem] theorem h12_g7 : h12.ct 7 = none := rfl
@[go_sem] theorem h12_z7 : h12.at 7 = [] := rfl
@[go_sem] theorem h12_l8 : h12.lv 8 = [3, 6, 9, 10] := rfl
@[go_sem] theorem h12_g8 : h12.ct 8 = none := rfl
@[go_sem] theorem h12_z8 : h12.at 8 = [] := rfl
@[go_sem] theorem h12_l9 : h12.lv 9 = [6, 7] := rfl
@[go_sem] theorem h12_g9 : h12.ct 9 = none := rfl
@[go_sem] theorem h12_z9 : h12.at 9 = [] := rfl
theorem h12_d : Try.f12.body.any (drawsOk h12) = true := by kernel_rfl
@[go_sem] theorem h12_t : h12.tk = [19, 30] := rfl
@[go_sem] theorem h12_m : h12.mt = [] := rfl
@[go_sem] theorem h12_p : h12.pc = [14] := rfl
def h13 : Hint := ⟨[(0, [0, 3]), (1, [0, 3, 7]), (2, [0, 3, 7, 8]), (3, [4, 5]), (4, [0, 3, 7, 16]), (5, [4, 5]), (6, [0, 3, 7, 20]), (7, [0, 3, 20]), (8, [4, 5]), (9, [4, 5])], [], [], [], [], []⟩
@[go_sem] theorem h13_l0 : h13.lv 0 = [0, 3] := rfl
@[go_sem] theorem h13_g0 : h13.ct 0 = none := rfl
@[go_sem] theorem h13_z0 : h13.at 0 = [] := rfl
@[go_sem] theorem h13_l1 : h13.lv 1 = [0, 3, 7] := rfl
@[go_sem] theorem h13_g1 : h13.ct 1 = none := rfl
@[go_sem] theorem h13_z1 : h13.at 1 = [] := rfl
@[go_sem] theorem h13_l2 : h13.lv 2 = [0, 3, 7, 8] := rfl
@[go_sem] theorem h13_g2 : h13.ct 2 = none := rfl
@[go_sem] theorem h13_z2 : h13.at 2 = [] := rfl
@[go_sem] theorem h13_l3 : h13.lv 3 = [4, 5] := rfl
@[go_sem] theorem h13_g3 : h13.ct 3 = none := rfl
@[go_sem] theorem h13_z3 : h13.at 3 = [] := rfl
@[go_sem] theorem h13_l4 : h13.lv 4 = [0, 3, 7, 16] := rfl
@[go_sem] theorem h13_g4 : h13.ct 4 = none := rfl
@[go_sem] theorem h13_z4 : h13.at 4 = [] := rfl
@[go_sem] theorem h13_l5 : h13.lv 5 = [4, 5] := rfl
@[go_sem] theorem h13_g5 : h13.ct 5 = none := rfl
@[go_sem] theorem h13_z5 : h13.at 5 = [] := rfl
@[go_sem] theorem h13_l6 : h13.lv 6 = [0, 3, 7, 20] := rfl
@[go_sem] theorem h13_g6 : h13.ct 6 = none := rfl
@[go_sem] theorem h13_z6 : h13.at 6 = [] := rfl
@[go_sem] theorem h13_l7 : h13.lv 7 = [0, 3, 20] := rfl
@[go_sem] theorem h13_g7 : h13.ct 7 = none := rfl
@[go_sem] theorem h13_z7 : h13.at 7 = [] := rfl
@[go_sem] theorem h13_l8 : h13.lv 8 = [4, 5] := rfl
@[go_sem] theorem h13_g8 : h13.ct 8 = none := rfl
@[go_sem] theorem h13_z8 : h13.at 8 = [] := rfl
@[go_sem] theorem h13_l9 : h13.lv 9 = [4, 5] := rfl
@[go_sem] theorem h13_g9 : h13.ct 9 = none := rfl
@[go_sem] theorem h13_z9 : h13.at 9 = [] := rfl
theorem h13_d : Try.f13.body.any (drawsOk h13) = true := by kernel_rfl
@[go_sem] theorem h13_t : h13.tk = [] := rfl
@[go_sem] theorem h13_m : h13.mt = [] := rfl
@[go_sem] theorem h13_p : h13.pc = [] := rfl
def h14 : Hint := ⟨[(0, [2, 3, 4]), (1, [2, 3, 4, 14]), (2, [2, 3, 4, 14, 15]), (3, [4, 7, 8]), (4, [4, 5, 6]), (5, [2, 3, 4, 14, 28]), (6, [4, 9, 10]), (7, [4, 5, 6]), (8, [2, 3, 4, 14, 37]), (9, [2, 3, 4, 37]), (10, [4, 11, 12]), (11, [4, 5, 6]), (12, [4, 5, 6])], [36], [], [], [23, 32, 47], []⟩
@[go_sem] theorem h14_l0 : h14.lv 0 = [2, 3, 4] := rfl
@[go_sem] theorem h14_g0 : h14.ct 0 = none := rfl
@[go_sem] theorem h14_z0 : h14.at 0 = [] := rfl
@[go_sem] theorem h14_l1 : h14.lv 1 = [2, 3, 4, 14] := rfl
@[go_sem] theorem h14_g1 : h14.ct 1 = none := rfl
@[go_sem] theorem h14_z1 : h14.at 1 = [] := rfl
@[go_sem] theorem h14_l2 : h14.lv 2 = [2, 3, 4, 14, 15] := rfl
@[go_sem] theorem h14_g2 : h14.ct 2 = none := rfl
@[go_sem] theorem h14_z2 : h14.at 2 = [] := rfl
@[go_sem] theorem h14_l3 : h14.lv 3 = [4, 7, 8] := rfl
@[go_sem] theorem h14_g3 : h14.ct 3 = none := rfl
@[go_sem] theorem h14_z3 : h14.at 3 = [] := rfl
@[go_sem] theorem h14_l4 : h14.lv 4 = [4, 5, 6] := rfl
@[go_sem] theorem h14_g4 : h14.ct 4 = none := rfl
@[go_sem] theorem h14_z4 : h14.at 4 = [] := rfl
@[go_sem] theorem h14_l5 : h14.lv 5 = [2, 3, 4, 14, 28] := rfl
@[go_sem] theorem h14_g5 : h14.ct 5 = none := rfl
@[go_sem] theorem h14_z5 : h14.at 5 = [] := rfl
@[go_sem] theorem h14_l6 : h14.lv 6 = [4, 9, 10] := rfl
@[go_sem] theorem h14_g6 : h14.ct 6 = none := rfl
@[go_sem] theorem h14_z6 : h14.at 6 = [] := rfl
@[go_sem] theorem h14_l7 : h14.lv 7 = [4, 5, 6] := rfl
@[go_sem] theorem h14_g7 : h14.ct 7 = none := rfl
@[go_sem] theorem h14_z7 : h14.at 7 = [] := rfl
@[go_sem] theorem h14_l8 : h14.lv 8 = [2, 3, 4, 14, 37] := rfl
@[go_sem] theorem h14_g8 : h14.ct 8 = none := rfl
@[go_sem] theorem h14_z8 : h14.at 8 = [] := rfl
@[go_sem] theorem h14_l9 : h14.lv 9 = [2, 3, 4, 37] := rfl
@[go_sem] theorem h14_g9 : h14.ct 9 = none := rfl
@[go_sem] theorem h14_z9 : h14.at 9 = [] := rfl
@[go_sem] theorem h14_l10 : h14.lv 10 = [4, 11, 12] := rfl
@[go_sem] theorem h14_g10 : h14.ct 10 = none := rfl
@[go_sem] theorem h14_z10 : h14.at 10 = [] := rfl
@[go_sem] theorem h14_l11 : h14.lv 11 = [4, 5, 6] := rfl
@[go_sem] theorem h14_g11 : h14.ct 11 = none := rfl
@[go_sem] theorem h14_z11 : h14.at 11 = [] := rfl
@[go_sem] theorem h14_l12 : h14.lv 12 = [4, 5, 6] := rfl
@[go_sem] theorem h14_g12 : h14.ct 12 = none := rfl
@[go_sem] theorem h14_z12 : h14.at 12 = [] := rfl
theorem h14_d : Try.f14.body.any (drawsOk h14) = true := by kernel_rfl
@[go_sem] theorem h14_t : h14.tk = [36] := rfl
@[go_sem] theorem h14_m : h14.mt = [] := rfl
@[go_sem] theorem h14_p : h14.pc = [23, 32, 47] := rfl
def h15 : Hint := ⟨[(0, [0, 1]), (1, [0, 1, 10]), (2, [4]), (3, [0, 1, 5]), (4, [0, 1, 5, 14]), (5, [0, 1, 5]), (6, [0, 1, 5, 25]), (7, [4]), (8, [4])], [], [], [], [], []⟩
@[go_sem] theorem h15_l0 : h15.lv 0 = [0, 1] := rfl
@[go_sem] theorem h15_g0 : h15.ct 0 = none := rfl
@[go_sem] theorem h15_z0 : h15.at 0 = [] := rfl
@[go_sem] theorem h15_l1 : h15.lv 1 = [0, 1, 10] := rfl
@[go_sem] theorem h15_g1 : h15.ct 1 = none := rfl
@[go_sem] theorem h15_z1 : h15.at 1 = [] := rfl
@[go_sem] theorem h15_l2 : h15.lv 2 = [4] := rfl
@[go_sem] theorem h15_g2 : h15.ct 2 = none := rfl
@[go_sem] theorem h15_z2 : h15.at 2 = [] := rfl
@[go_sem] theorem h15_l3 : h15.lv 3 = [0, 1, 5] := rfl
@[go_sem] theorem h15_g3 : h15.ct 3 = none := rfl
@[go_sem] theorem h15_z3 : h15.at 3 = [] := rfl
@[go_sem] theorem h15_l4 : h15.lv 4 = [0, 1, 5, 14] := rfl
@[go_sem] theorem h15_g4 : h15.ct 4 = none := rfl
@[go_sem] theorem h15_z4 : h15.at 4 = [] := rfl
@[go_sem] theorem h15_l5 : h15.lv 5 = [0, 1, 5] := rfl
@[go_sem] theorem h15_g5 : h15.ct 5 = none := rfl
@[go_sem] theorem h15_z5 : h15.at 5 = [] := rfl
@[go_sem] theorem h15_l6 : h15.lv 6 = [0, 1, 5, 25] := rfl
@[go_sem] theorem h15_g6 : h15.ct 6 = none := rfl
@[go_sem] theorem h15_z6 : h15.at 6 = [] := rfl
@[go_sem] theorem h15_l7 : h15.lv 7 = [4] := rfl
@[go_sem] theorem h15_g7 : h15.ct 7 = none := rfl
@[go_sem] theorem h15_z7 : h15.at 7 = [] := rfl
@[go_sem] theorem h15_l8 : h15.lv 8 = [4] := rfl
@[go_sem] theorem h15_g8 : h15.ct 8 = none := rfl
@[go_sem] theorem h15_z8 : h15.at 8 = [] := rfl
theorem h15_d : Try.f15.body.any (drawsOk h15) = true := by kernel_rfl
@[go_sem] theorem h15_t : h15.tk = [] := rfl
@[go_sem] theorem h15_m : h15.mt = [] := rfl
@[go_sem] theorem h15_p : h15.pc = [] := rfl
def h16 : Hint := ⟨[(0, [0, 3]), (1, [0, 3, 21]), (2, [4]), (3, [0, 3, 5]), (4, [0, 3, 5, 26]), (5, [0, 3, 5]), (6, [0, 3, 5, 6, 7]), (7, [0, 3, 5, 6, 7, 8, 9]), (8, [0, 3, 5, 77]), (9, [4]), (10, [4])], [], [11, 17, 32, 52, 61, 71], [], [11, 17, 19, 32, 38, 52, 55, 61, 64, 65, 71, 74, 75], []⟩
@[go_sem] theorem h16_l0 : h16.lv 0 = [0, 3] := rfl
@[go_sem] theorem h16_g0 : h16.ct 0 = none := rfl
@[go_sem] theorem h16_z0 : h16.at 0 = [] := rfl
@[go_sem] theorem h16_l1 : h16.lv 1 = [0, 3, 21] := rfl
@[go_sem] theorem h16_g1 : h16.ct 1 = none := rfl
@[go_sem] theorem h16_z1 : h16.at 1 = [] := rfl
@[go_sem] theorem h16_l2 : h16.lv 2 = [4] := rfl
@[go_sem] theorem h16_g2 : h16.ct 2 = none := rfl
@[go_sem] theorem h16_z2 : h16.at 2 = [] := rfl
@[go_sem] theorem h16_l3 : h16.lv 3 = [0, 3, 5] := rfl
@[go_sem] theorem h16_g3 : h16.ct 3 = none := rfl
@[go_sem] theorem h16_z3 : h16.at 3 = [] := rfl
@[go_sem] theorem h16_l4 : h16.lv 4 = [0, 3, 5, 26] := rfl
@[go_sem] theorem h16_g4 : h16.ct 4 = none := rfl
@[go_sem] theorem h16_z4 : h16.at 4 = [] := rfl
@[go_sem] theorem h16_l5 : h16.lv 5 = [0, 3, 5] := rfl
@[go_sem] theorem h16_g5 : h16.ct 5 = none := rfl
@[go_sem] theorem h16_z5 : h16.at 5 = [] := rfl
@[go_sem] theorem h16_l6 : h16.lv 6 = [0, 3, 5, 6, 7] := rfl
@[go_sem] theorem h16_g6 : h16.ct 6 = none := rfl
@[go_sem] theorem h16_z6 : h16.at 6 = [] := rfl
@[go_sem] theorem h16_l7 : h16.lv 7 = [0, 3, 5, 6, 7, 8, 9] := rfl
@[go_sem] theorem h16_g7 : h16.ct 7 = none := rfl
@[go_sem] theorem h16_z7 : h16.at 7 = [] := rfl
@[go_sem] theorem h16_l8 : h16.lv 8 = [0, 3, 5, 77] := rfl
@[go_sem] theorem h16_g8 : h16.ct 8 = none := rfl
@[go_sem] theorem h16_z8 : h16.at 8 = [] := rfl
@[go_sem] theorem h16_l9 : h16.lv 9 = [4] := rfl
@[go_sem] theorem h16_g9 : h16.ct 9 = none := rfl
@[go_sem] theorem h16_z9 : h16.at 9 = [] := rfl
@[go_sem] theorem h16_l10 : h16.lv 10 = [4] := rfl
@[go_sem] theorem h16_g10 : h16.ct 10 = none := rfl
@[go_sem] theorem h16_z10 : h16.at 10 = [] := rfl
theorem h16_d : Try.f16.body.any (drawsOk h16) = true := by kernel_rfl
@[go_sem] theorem h16_t : h16.tk = [] := rfl
@[go_sem] theorem h16_m : h16.mt = [11, 17, 32, 52, 61, 71] := rfl
@[go_sem] theorem h16_p : h16.pc = [11, 17, 19, 32, 38, 52, 55, 61, 64, 65, 71, 74, 75] := rfl
def h17 : Hint := ⟨[(0, [0, 1, 4]), (1, [4, 6]), (2, [4, 6, 11]), (3, [4, 5]), (4, [4, 5])], [], [9], [], [9], []⟩
@[go_sem] theorem h17_l0 : h17.lv 0 = [0, 1, 4] := rfl
@[go_sem] theorem h17_g0 : h17.ct 0 = none := rfl
@[go_sem] theorem h17_z0 : h17.at 0 = [] := rfl
@[go_sem] theorem h17_l1 : h17.lv 1 = [4, 6] := rfl
@[go_sem] theorem h17_g1 : h17.ct 1 = none := rfl
@[go_sem] theorem h17_z1 : h17.at 1 = [] := rfl
@[go_sem] theorem h17_l2 : h17.lv 2 = [4, 6, 11] := rfl
@[go_sem] theorem h17_g2 : h17.ct 2 = none := rfl
@[go_sem] theorem h17_z2 : h17.at 2 = [] := rfl
@[go_sem] theorem h17_l3 : h17.lv 3 = [4, 5] := rfl
@[go_sem] theorem h17_g3 : h17.ct 3 = none := rfl
@[go_sem] theorem h17_z3 : h17.at 3 = [] := rfl
@[go_sem] theorem h17_l4 : h17.lv 4 = [4, 5] := rfl
@[go_sem] theorem h17_g4 : h17.ct 4 = none := rfl
@[go_sem] theorem h17_z4 : h17.at 4 = [] := rfl
theorem h17_d : Try.f17.body.any (drawsOk h17) = true := by kernel_rfl
@[go_sem] theorem h17_t : h17.tk = [] := rfl
@[go_sem] theorem h17_m : h17.mt = [9] := rfl
@[go_sem] theorem h17_p : h17.pc = [9] := rfl
def h18 : Hint := ⟨[(0, [0, 1]), (1, [5]), (2, [5, 10]), (3, [4]), (4, [4])], [], [8], [], [8, 21], []⟩
@[go_sem] theorem h18_l0 : h18.lv 0 = [0, 1] := rfl
@[go_sem] theorem h18_g0 : h18.ct 0 = none := rfl
@[go_sem] theorem h18_z0 : h18.at 0 = [] := rfl
@[go_sem] theorem h18_l1 : h18.lv 1 = [5] := rfl
@[go_sem] theorem h18_g1 : h18.ct 1 = none := rfl
@[go_sem] theorem h18_z1 : h18.at 1 = [] := rfl
@[go_sem] theorem h18_l2 : h18.lv 2 = [5, 10] := rfl
@[go_sem] theorem h18_g2 : h18.ct 2 = none := rfl
@[go_sem] theorem h18_z2 : h18.at 2 = [] := rfl
@[go_sem] theorem h18_l3 : h18.lv 3 = [4] := rfl
@[go_sem] theorem h18_g3 : h18.ct 3 = none := rfl
@[go_sem] theorem h18_z3 : h18.at 3 = [] := rfl
@[go_sem] theorem h18_l4 : h18.lv 4 = [4] := rfl
@[go_sem] theorem h18_g4 : h18.ct 4 = none := rfl
@[go_sem] theorem h18_z4 : h18.at 4 = [] := rfl
theorem h18_d : Try.f18.body.any (drawsOk h18) = true := by kernel_rfl
@[go_sem] theorem h18_t : h18.tk = [] := rfl
@[go_sem] theorem h18_m : h18.mt = [8] := rfl
@[go_sem] theorem h18_p : h18.pc = [8, 21] := rfl
def h19 : Hint := ⟨[(0, [0, 1]), (1, [5]), (2, [5, 10]), (3, [4]), (4, [4])], [], [8], [], [8, 21], []⟩
@[go_sem] theorem h19_l0 : h19.lv 0 = [0, 1] := rfl
@[go_sem] theorem h19_g0 : h19.ct 0 = none := rfl
@[go_sem] theorem h19_z0 : h19.at 0 = [] := rfl
@[go_sem] theorem h19_l1 : h19.lv 1 = [5] := rfl
@[go_sem] theorem h19_g1 : h19.ct 1 = none := rfl
@[go_sem] theorem h19_z1 : h19.at 1 = [] := rfl
@[go_sem] theorem h19_l2 : h19.lv 2 = [5, 10] := rfl
@[go_sem] theorem h19_g2 : h19.ct 2 = none := rfl
@[go_sem] theorem h19_z2 : h19.at 2 = [] := rfl
@[go_sem] theorem h19_l3 : h19.lv 3 = [4] := rfl
@[go_sem] theorem h19_g3 : h19.ct 3 = none := rfl
@[go_sem] theorem h19_z3 : h19.at 3 = [] := rfl
@[go_sem] theorem h19_l4 : h19.lv 4 = [4] := rfl
@[go_sem] theorem h19_g4 : h19.ct 4 = none := rfl
@[go_sem] theorem h19_z4 : h19.at 4 = [] := rfl
theorem h19_d : Try.f19.body.any (drawsOk h19) = true := by kernel_rfl
@[go_sem] theorem h19_t : h19.tk = [] := rfl
@[go_sem] theorem h19_m : h19.mt = [8] := rfl
@[go_sem] theorem h19_p : h19.pc = [8, 21] := rfl
def h20 : Hint := ⟨[(0, [0, 1]), (1, [5]), (2, [4])], [], [8], [], [8], []⟩
@[go_sem] theorem h20_l0 : h20.lv 0 = [0, 1] := rfl
@[go_sem] theorem h20_g0 : h20.ct 0 = none := rfl
@[go_sem] theorem h20_z0 : h20.at 0 = [] := rfl
@[go_sem] theorem h20_l1 : h20.lv 1 = [5] := rfl
@[go_sem] theorem h20_g1 : h20.ct 1 = none := rfl
@[go_sem] theorem h20_z1 : h20.at 1 = [] := rfl
@[go_sem] theorem h20_l2 : h20.lv 2 = [4] := rfl
@[go_sem] theorem h20_g2 : h20.ct 2 = none := rfl
@[go_sem] theorem h20_z2 : h20.at 2 = [] := rfl
theorem h20_d : Try.f20.body.any (drawsOk h20) = true := by kernel_rfl
@[go_sem] theorem h20_t : h20.tk = [] := rfl
@[go_sem] theorem h20_m : h20.mt = [8] := rfl
@[go_sem] theorem h20_p : h20.pc = [8] := rfl
def h21 : Hint := ⟨[(0, [0, 1, 5]), (1, [0, 5, 7]), (2, [0, 5, 7, 11]), (3, [6]), (4, [0, 5, 7, 14]), (5, [6]), (6, [5, 7, 23]), (7, [6]), (8, [5, 7]), (9, [0]), (10, [6])], [59], [10], [], [10], []⟩
@[go_sem] theorem h21_l0 : h21.lv 0 = [0, 1, 5] := rfl
@[go_sem] theorem h21_g0 : h21.ct 0 = none := rfl
@[go_sem] theorem h21_z0 : h21.at 0 = [] := rfl
@[go_sem] theorem h21_l1 : h21.lv 1 = [0, 5, 7] := rfl
@[go_sem] theorem h21_g1 : h21.ct 1 = none := rfl
@[go_sem] theorem h21_z1 : h21.at 1 = [] := rfl
@[go_sem] theorem h21_l2 : h21.lv 2 = [0, 5, 7, 11] := rfl
@[go_sem] theorem h21_g2 : h21.ct 2 = none := rfl
@[go_sem] theorem h21_z2 : h21.at 2 = [] := rfl
@[go_sem] theorem h21_l3 : h21.lv 3 = [6] := rfl
@[go_sem] theorem h21_g3 : h21.ct 3 = none := rfl
@[go_sem] theorem h21_z3 : h21.at 3 = [] := rfl
@[go_sem] theorem h21_l4 : h21.lv 4 = [0, 5, 7, 14] := rfl
@[go_sem] theorem h21_g4 : h21.ct 4 = none := rfl
@[go_sem] theorem h21_z4 : h21.at 4 = [] := rfl
@[go_sem] theorem h21_l5 : h21.lv 5 = [6] := rfl
@[go_sem] theorem h21_g5 : h21.ct 5 = none := rfl
@[go_sem] theorem h21_z5 : h21.at 5 = [] := rfl
@[go_sem] theorem h21_l6 : h21.lv 6 = [5, 7, 23] := rfl
@[go_sem] theorem h21_g6 : h21.ct 6 = none := rfl
@[go_sem] theorem h21_z6 : h21.at 6 = [] := rfl
@[go_sem] theorem h21_l7 : h21.lv 7 = [6] := rfl
@[go_sem] theorem h21_g7 : h21.ct 7 = none := rfl
@[go_sem] theorem h21_z7 : h21.at 7 = [] := rfl
@[go_sem] theorem h21_l8 : h21.lv 8 = [5, 7] := rfl
@[go_sem] theorem h21_g8 : h21.ct 8 = none := rfl
@[go_sem] theorem h21_z8 : h21.at 8 = [] := rfl
@[go_sem] theorem h21_l9 : h21.lv 9 = [0] := rfl
@[go_sem] theorem h21_g9 : h21.ct 9 = none := rfl
@[go_sem] theorem h21_z9 : h21.at 9 = [] := rfl
@[go_sem] theorem h21_l10 : h21.lv 10 = [6] := rfl
@[go_sem] theorem h21_g10 : h21.ct 10 = none := rfl
@[go_sem] theorem h21_z10 : h21.at 10 = [] := rfl
theorem h21_d : Try.f21.body.any (drawsOk h21) = true := by kernel_rfl
@[go_sem] theorem h21_t : h21.tk = [59] := rfl
@[go_sem] theorem h21_m : h21.mt = [10] := rfl
@[go_sem] theorem h21_p : h21.pc = [10] := rfl
def h22 : Hint := ⟨[(0, [0]), (1, [0]), (2, [0, 3]), (3, [0, 3, 19, 20]), (4, [0, 3, 19, 20, 21]), (5, [0, 3, 4, 19, 20]), (6, [0, 3, 4, 5, 19, 20]), (7, [0, 3, 4, 5, 6, 19, 20]), (8, [0, 3, 4, 5, 6, 19, 20, 49]), (9, [0, 3, 4, 5, 6, 19, 20]), (10, [0, 3, 4, 5, 6, 19, 20]), (11, [0, 3, 5, 6, 19, 20]), (12, [0, 3, 5, 19, 20]), (13, [0, 3, 5, 7, 19, 20]), (14, [0, 3, 5, 7, 19, 20, 112]), (15, [0, 3, 5, 7, 19, 20]), (16, [0, 3, 5, 7, 19, 20]), (17, [0, 3, 19, 20]), (18, [2])], [50, 74, 80, 119, 134], [], [], [], []⟩
@[go_sem] theorem h22_l0 : h22.lv 0 = [0] := rfl
@[go_sem] theorem h22_g0 : h22.ct 0 = none := rfl
@[go_sem] theorem h22_z0 : h22.at 0 = [] := rfl
@[go_sem] theorem h22_l1 : h22.lv 1 = [0] := rfl
@[go_sem] theorem h22_g1 : h22.ct 1 = none := rfl
@[go_sem] theorem h22_z1 : h22.at 1 = [] := rfl
@[go_sem] theorem h22_l2 : h22.lv 2 = [0, 3] := rfl
@[go_sem] theorem h22_g2 : h22.ct 2 = none := rfl
@[go_sem] theorem h22_z2 : h22.at 2 = [] := rfl
@[go_sem] theorem h22_l3 : h22.lv 3 = [0, 3, 19, 20] := rfl
@[go_sem] theorem h22_g3 : h22.ct 3 = none := rfl
@[go_sem] theorem h22_z3 : h22.at 3 = [] := rfl
@[go_sem] theorem h22_l4 : h22.lv 4 = [0, 3, 19, 20, 21] := rfl
@[go_sem] theorem h22_g4 : h22.ct 4 = none := rfl
@[go_sem] theorem h22_z4 : h22.at 4 = [] := rfl
@[go_sem] theorem h22_l5 : h22.lv 5 = [0, 3, 4, 19, 20] := rfl
@[go_sem] theorem h22_g5 : h22.ct 5 = none := rfl
@[go_sem] theorem h22_z5 : h22.at 5 = [] := rfl
@[go_sem] theorem h22_l6 : h22.lv 6 = [0, 3, 4, 5, 19, 20] := rfl
@[go_sem] theorem h22_g6 : h22.ct 6 = none := rfl
@[go_sem] theorem h22_z6 : h22.at 6 = [] := rfl
@[go_sem] theorem h22_l7 : h22.lv 7 = [0, 3, 4, 5, 6, 19, 20] := rfl
@[go_sem] theorem h22_g7 : h22.ct 7 = none := rfl
@[go_sem] theorem h22_z7 : h22.at 7 = [] := rfl
@[go_sem] theorem h22_l8 : h22.lv 8 = [0, 3, 4, 5, 6, 19, 20, 49] := rfl
@[go_sem] theorem h22_g8 : h22.ct 8 = none := rfl
@[go_sem] theorem h22_z8 : h22.at 8 = [] := rfl
@[go_sem] theorem h22_l9 : h22.lv 9 = [0, 3, 4, 5, 6, 19, 20] := rfl
@[go_sem] theorem h22_g9 : h22.ct 9 = none := rfl
@[go_sem] theorem h22_z9 : h22.at 9 = [] := rfl
@[go_sem] theorem h22_l10 : h22.lv 10 = [0, 3, 4, 5, 6, 19, 20] := rfl
@[go_sem] theorem h22_g10 : h22.ct 10 = none := rfl
@[go_sem] theorem h22_z10 : h22.at 10 = [] := rfl
@[go_sem] theorem h22_l11 : h22.lv 11 = [0, 3, 5, 6, 19, 20] := rfl
@[go_sem] theorem h22_g11 : h22.ct 11 = none := rfl
@[go_sem] theorem h22_z11 : h22.at 11 = [] := rfl
@[go_sem] theorem h22_l12 : h22.lv 12 = [0, 3, 5, 19, 20] := rfl
@[go_sem] theorem h22_g12 : h22.ct 12 = none := rfl
@[go_sem] theorem h22_z12 : h22.at 12 = [] := rfl
@[go_sem] theorem h22_l13 : h22.lv 13 = [0, 3, 5, 7, 19, 20] := rfl
@[go_sem] theorem h22_g13 : h22.ct 13 = none := rfl
@[go_sem] theorem h22_z13 : h22.at 13 = [] := rfl
@[go_sem] theorem h22_l14 : h22.lv 14 = [0, 3, 5, 7, 19, 20, 112] := rfl
@[go_sem] theorem h22_g14 : h22.ct 14 = none := rfl
@[go_sem] theorem h22_z14 : h22.at 14 = [] := rfl
@[go_sem] theorem h22_l15 : h22.lv 15 = [0, 3, 5, 7, 19, 20] := rfl
@[go_sem] theorem h22_g15 : h22.ct 15 = none := rfl
@[go_sem] theorem h22_z15 : h22.at 15 = [] := rfl
@[go_sem] theorem h22_l16 : h22.lv 16 = [0, 3, 5, 7, 19, 20] := rfl
@[go_sem] theorem h22_g16 : h22.ct 16 = none := rfl
@[go_sem] theorem h22_z16 : h22.at 16 = [] := rfl
@[go_sem] theorem h22_l17 : h22.lv 17 = [0, 3, 19, 20] := rfl
@[go_sem] theorem h22_g17 : h22.ct 17 = none := rfl
@[go_sem] theorem h22_z17 : h22.at 17 = [] := rfl
@[go_sem] theorem h22_l18 : h22.lv 18 = [2] := rfl
@[go_sem] theorem h22_g18 : h22.ct 18 = none := rfl
@[go_sem] theorem h22_z18 : h22.at 18 = [] := rfl
theorem h22_d : Try.f22.body.any (drawsOk h22) = true := by kernel_rfl
@[go_sem] theorem h22_t : h22.tk = [50, 74, 80, 119, 134] := rfl
@[go_sem] theorem h22_m : h22.mt = [] := rfl
@[go_sem] theorem h22_p : h22.pc = [] := rfl
def h23 : Hint := ⟨[(0, [0]), (1, [0, 3]), (2, [0, 3, 26, 27]), (3, [0, 3, 26, 27, 28]), (4, [0, 3, 4, 26, 27]), (5, [0, 3, 4, 5, 26, 27]), (6, [0, 3, 4, 26, 27]), (7, [0, 3, 6, 26, 27]), (8, [0, 3, 26, 27]), (9, [0, 3, 26, 27]), (10, [2])], [], [19], [], [], []⟩
@[go_sem] theorem h23_l0 : h23.lv 0 = [0] := rfl
@[go_sem] theorem h23_g0 : h23.ct 0 = none := rfl
@[go_sem] theorem h23_z0 : h23.at 0 = [] := rfl
@[go_sem] theorem h23_l1 : h23.lv 1 = [0, 3] := rfl
@[go_sem] theorem h23_g1 : h23.ct 1 = none := rfl
@[go_sem] theorem h23_z1 : h23.at 1 = [] := rfl
@[go_sem] theorem h23_l2 : h23.lv 2 = [0, 3, 26, 27] := rfl
@[go_sem] theorem h23_g2 : h23.ct 2 = none := rfl
@[go_sem] theorem h23_z2 : h23.at 2 = [] := rfl
@[go_sem] theorem h23_l3 : h23.lv 3 = [0, 3, 26, 27, 28] := rfl
@[go_sem] theorem h23_g3 : h23.ct 3 = none := rfl
@[go_sem] theorem h23_z3 : h23.at 3 = [] := rfl
@[go_sem] theorem h23_l4 : h23.lv 4 = [0, 3, 4, 26, 27] := rfl
@[go_sem] theorem h23_g4 : h23.ct 4 = none := rfl
@[go_sem] theorem h23_z4 : h23.at 4 = [] := rfl
@[go_sem] theorem h23_l5 : h23.lv 5 = [0, 3, 4, 5, 26, 27] := rfl
@[go_sem] theorem h23_g5 : h23.ct 5 = none := rfl
@[go_sem] theorem h23_z5 : h23.at 5 = [] := rfl
@[go_sem] theorem h23_l6 : h23.lv 6 = [0, 3, 4, 26, 27] := rfl
@[go_sem] theorem h23_g6 : h23.ct 6 = none := rfl
@[go_sem] theorem h23_z6 : h23.at 6 = [] := rfl
@[go_sem] theorem h23_l7 : h23.lv 7 = [0, 3, 6, 26, 27] := rfl
@[go_sem] theorem h23_g7 : h23.ct 7 = none := rfl
@[go_sem] theorem h23_z7 : h23.at 7 = [] := rfl
@[go_sem] theorem h23_l8 : h23.lv 8 = [0, 3, 26, 27] := rfl
@[go_sem] theorem h23_g8 : h23.ct 8 = none := rfl
@[go_sem] theorem h23_z8 : h23.at 8 = [] := rfl
@[go_sem] theorem h23_l9 : h23.lv 9 = [0, 3, 26, 27] := rfl
@[go_sem] theorem h23_g9 : h23.ct 9 = none := rfl
@[go_sem] theorem h23_z9 : h23.at 9 = [] := rfl
@[go_sem] theorem h23_l10 : h23.lv 10 = [2] := rfl
@[go_sem] theorem h23_g10 : h23.ct 10 = none := rfl
@[go_sem] theorem h23_z10 : h23.at 10 = [] := rfl
theorem h23_d : Try.f23.body.any (drawsOk h23) = true := by kernel_rfl
@[go_sem] theorem h23_t : h23.tk = [] := rfl
@[go_sem] theorem h23_m : h23.mt = [19] := rfl
@[go_sem] theorem h23_p : h23.pc = [] := rfl
def h24 : Hint := ⟨[(0, [1, 2, 3, 4]), (1, [8])], [], [], [], [], []⟩
@[go_sem] theorem h24_l0 : h24.lv 0 = [1, 2, 3, 4] := rfl
@[go_sem] theorem h24_g0 : h24.ct 0 = none := rfl
@[go_sem] theorem h24_z0 : h24.at 0 = [] := rfl
@[go_sem] theorem h24_l1 : h24.lv 1 = [8] := rfl
@[go_sem] theorem h24_g1 : h24.ct 1 = none := rfl
@[go_sem] theorem h24_z1 : h24.at 1 = [] := rfl
theorem h24_d : Try.f24.body.any (drawsOk h24) = true := by kernel_rfl
@[go_sem] theorem h24_t : h24.tk = [] := rfl
@[go_sem] theorem h24_m : h24.mt = [] := rfl
@[go_sem] theorem h24_p : h24.pc = [] := rfl
def h25 : Hint := ⟨[(0, [1]), (1, [1, 27]), (2, [2]), (3, [1, 3, 4]), (4, [1, 4, 5]), (5, [1, 5, 6]), (6, [1, 42]), (7, [2]), (8, [1, 7]), (9, [1, 7, 47]), (10, [1, 7]), (11, [1, 7, 8]), (12, [1, 7, 72]), (13, [2]), (14, [1, 9]), (15, [1, 9, 77]), (16, [1, 9]), (17, [1, 9, 10]), (18, [1, 9, 113]), (19, [2]), (20, [1, 11]), (21, [1, 11, 118]), (22, [1, 11]), (23, [1, 11, 129]), (24, [2]), (25, [2])], [33, 35], [], [], [30, 88, 94, 128], [(10, 1), (16, 1)]⟩
@[go_sem] theorem h25_l0 : h25.lv 0 = [1] := rfl
@[go_sem] theorem h25_g0 : h25.ct 0 = none := rfl
@[go_sem] theorem h25_z0 : h25.at 0 = [] := rfl
@[go_sem] theorem h25_l1 : h25.lv 1 = [1, 27] := rfl
@[go_sem] theorem h25_g1 : h25.ct 1 = none := rfl
@[go_sem] theorem h25_z1 : h25.at 1 = [] := rfl
@[go_sem] theorem h25_l2 : h25.lv 2 = [2] := rfl
@[go_sem] theorem h25_g2 : h25.ct 2 = none := rfl
@[go_sem] theorem h25_z2 : h25.at 2 = [] := rfl
@[go_sem] theorem h25_l3 : h25.lv 3 = [1, 3, 4] := rfl
@[go_sem] theorem h25_g3 : h25.ct 3 = none := rfl
@[go_sem] theorem h25_z3 : h25.at 3 = [] := rfl
@[go_sem] theorem h25_l4 : h25.lv 4 = [1, 4, 5] := rfl
@[go_sem] theorem h25_g4 : h25.ct 4 = none := rfl
@[go_sem] theorem h25_z4 : h25.at 4 = [] := rfl
@[go_sem] theorem h25_l5 : h25.lv 5 = [1, 5, 6] := rfl
@[go_sem] theorem h25_g5 : h25.ct 5 = none := rfl
@[go_sem] theorem h25_z5 : h25.at 5 = [] := rfl
@[go_sem] theorem h25_l6 : h25.lv 6 = [1, 42] := rfl
@[go_sem] theorem h25_g6 : h25.ct 6 = none := rfl
@[go_sem] theorem h25_z6 : h25.at 6 = [] := rfl
@[go_sem] theorem h25_l7 : h25.lv 7 = [2] := rfl
@[go_sem] theorem h25_g7 : h25.ct 7 = none := rfl
@[go_sem] theorem h25_z7 : h25.at 7 = [] := rfl
@[go_sem] theorem h25_l8 : h25.lv 8 = [1, 7] := rfl
@[go_sem] theorem h25_g8 : h25.ct 8 = none := rfl
@[go_sem] theorem h25_z8 : h25.at 8 = [] := rfl
@[go_sem] theorem h25_l9 : h25.lv 9 = [1, 7, 47] := rfl
@[go_sem] theorem h25_g9 : h25.ct 9 = none := rfl
@[go_sem] theorem h25_z9 : h25.at 9 = [] := rfl
@[go_sem] theorem h25_l10 : h25.lv 10 = [1, 7] := rfl
@[go_sem] theorem h25_g10 : h25.ct 10 = some 1 := rfl
@[go_sem] theorem h25_z10 : h25.at 10 = [] := rfl
@[go_sem] theorem h25_l11 : h25.lv 11 = [1, 7, 8] := rfl
@[go_sem] theorem h25_g11 : h25.ct 11 = none := rfl
@[go_sem] theorem h25_z11 : h25.at 11 = [] := rfl
@[go_sem] theorem h25_l12 : h25.lv 12 = [1, 7, 72] := rfl
@[go_sem] theorem h25_g12 : h25.ct 12 = none := rfl
@[go_sem] theorem h25_z12 : h25.at 12 = [] := rfl
@[go_sem] theorem h25_l13 : h25.lv 13 = [2] := rfl
@[go_sem] theorem h25_g13 : h25.ct 13 = none := rfl
@[go_sem] theorem h25_z13 : h25.at 13 = [] := rfl
@[go_sem] theorem h25_l14 : h25.lv 14 = [1, 9] := rfl
@[go_sem] theorem h25_g14 : h25.ct 14 = none := rfl
@[go_sem] theorem h25_z14 : h25.at 14 = [] := rfl
@[go_sem] theorem h25_l15 : h25.lv 15 = [1, 9, 77] := rfl
@[go_sem] theorem h25_g15 : h25.ct 15 = none := rfl
@[go_sem] theorem h25_z15 : h25.at 15 = [] := rfl
@[go_sem] theorem h25_l16 : h25.lv 16 = [1, 9] := rfl
@[go_sem] theorem h25_g16 : h25.ct 16 = some 1 := rfl
@[go_sem] theorem h25_z16 : h25.at 16 = [] := rfl
@[go_sem] theorem h25_l17 : h25.lv 17 = [1, 9, 10] := rfl
@[go_sem] theorem h25_g17 : h25.ct 17 = none := rfl
@[go_sem] theorem h25_z17 : h25.at 17 = [] := rfl
@[go_sem] theorem h25_l18 : h25.lv 18 = [1, 9, 113] := rfl
@[go_sem] theorem h25_g18 : h25.ct 18 = none := rfl
@[go_sem] theorem h25_z18 : h25.at 18 = [] := rfl
@[go_sem] theorem h25_l19 : h25.lv 19 = [2] := rfl
@[go_sem] theorem h25_g19 : h25.ct 19 = none := rfl
@[go_sem] theorem h25_z19 : h25.at 19 = [] := rfl
@[go_sem] theorem h25_l20 : h25.lv 20 = [1, 11] := rfl
@[go_sem] theorem h25_g20 : h25.ct 20 = none := rfl
@[go_sem] theorem h25_z20 : h25.at 20 = [] := rfl
@[go_sem] theorem h25_l21 : h25.lv 21 = [1, 11, 118] := rfl
@[go_sem] theorem h25_g21 : h25.ct 21 = none := rfl
@[go_sem] theorem h25_z21 : h25.at 21 = [] := rfl
@[go_sem] theorem h25_l22 : h25.lv 22 = [1, 11] := rfl
@[go_sem] theorem h25_g22 : h25.ct 22 = none := rfl
@[go_sem] theorem h25_z22 : h25.at 22 = [] := rfl
@[go_sem] theorem h25_l23 : h25.lv 23 = [1, 11, 129] := rfl
@[go_sem] theorem h25_g23 : h25.ct 23 = none := rfl
@[go_sem] theorem h25_z23 : h25.at 23 = [] := rfl
@[go_sem] theorem h25_l24 : h25.lv 24 = [2] := rfl
@[go_sem] theorem h25_g24 : h25.ct 24 = none := rfl
@[go_sem] theorem h25_z24 : h25.at 24 = [] := rfl
@[go_sem] theorem h25_l25 : h25.lv 25 = [2] := rfl
@[go_sem] theorem h25_g25 : h25.ct 25 = none := rfl
@[go_sem] theorem h25_z25 : h25.at 25 = [] := rfl
theorem h25_d : Try.f25.body.any (drawsOk h25) = true := by kernel_rfl
@[go_sem] theorem h25_t : h25.tk = [33, 35] := rfl
@[go_sem] theorem h25_m : h25.mt = [] := rfl
@[go_sem] theorem h25_p : h25.pc = [30, 88, 94, 128] := rfl
def h26 : Hint := ⟨[(0, [0]), (1, [0, 1]), (2, [0, 2]), (3, [0, 2, 3]), (4, [0, 2, 3, 12]), (5, [0, 2, 3]), (6, [0, 2, 3]), (7, [0, 2]), (8, [0, 2]), (9, [0])], [], [9, 31], [(7, [(2, some 0, true)])], [], []⟩
@[go_sem] theorem h26_l0 : h26.lv 0 = [0] := rfl
@[go_sem] theorem h26_g0 : h26.ct 0 = none := rfl
@[go_sem] theorem h26_z0 : h26.at 0 = [] := rfl
@[go_sem] theorem h26_l1 : h26.lv 1 = [0, 1] := rfl
@[go_sem] theorem h26_g1 : h26.ct 1 = none := rfl
@[go_sem] theorem h26_z1 : h26.at 1 = [] := rfl
@[go_sem] theorem h26_l2 : h26.lv 2 = [0, 2] := rfl
@[go_sem] theorem h26_g2 : h26.ct 2 = none := rfl
@[go_sem] theorem h26_z2 : h26.at 2 = [] := rfl
@[go_sem] theorem h26_l3 : h26.lv 3 = [0, 2, 3] := rfl
@[go_sem] theorem h26_g3 : h26.ct 3 = none := rfl
@[go_sem] theorem h26_z3 : h26.at 3 = [] := rfl
@[go_sem] theorem h26_l4 : h26.lv 4 = [0, 2, 3, 12] := rfl
@[go_sem] theorem h26_g4 : h26.ct 4 = none := rfl
@[go_sem] theorem h26_z4 : h26.at 4 = [] := rfl
@[go_sem] theorem h26_l5 : h26.lv 5 = [0, 2, 3] := rfl
@[go_sem] theorem h26_g5 : h26.ct 5 = none := rfl
@[go_sem] theorem h26_z5 : h26.at 5 = [] := rfl
@[go_sem] theorem h26_l6 : h26.lv 6 = [0, 2, 3] := rfl
@[go_sem] theorem h26_g6 : h26.ct 6 = none := rfl
@[go_sem] theorem h26_z6 : h26.at 6 = [] := rfl
@[go_sem] theorem h26_l7 : h26.lv 7 = [0, 2] := rfl
@[go_sem] theorem h26_g7 : h26.ct 7 = none := rfl
@[go_sem] theorem h26_z7 : h26.at 7 = [(2, some 0, true)] := rfl
@[go_sem] theorem h26_l8 : h26.lv 8 = [0, 2] := rfl
@[go_sem] theorem h26_g8 : h26.ct 8 = none := rfl
@[go_sem] theorem h26_z8 : h26.at 8 = [] := rfl
@[go_sem] theorem h26_l9 : h26.lv 9 = [0] := rfl
@[go_sem] theorem h26_g9 : h26.ct 9 = none := rfl
@[go_sem] theorem h26_z9 : h26.at 9 = [] := rfl
theorem h26_d : Try.f26.body.any (drawsOk h26) = true := by kernel_rfl
@[go_sem] theorem h26_t : h26.tk = [] := rfl
@[go_sem] theorem h26_m : h26.mt = [9, 31] := rfl
@[go_sem] theorem h26_p : h26.pc = [] := rfl
def h27 : Hint := ⟨[(0, [0]), (1, [2])], [], [], [], [], []⟩
@[go_sem] theorem h27_l0 : h27.lv 0 = [0] := rfl
@[go_sem] theorem h27_g0 : h27.ct 0 = none := rfl
@[go_sem] theorem h27_z0 : h27.at 0 = [] := rfl
@[go_sem] theorem h27_l1 : h27.lv 1 = [2] := rfl
@[go_sem] theorem h27_g1 : h27.ct 1 = none := rfl
@[go_sem] theorem h27_z1 : h27.at 1 = [] := rfl
theorem h27_d : Try.f27.body.any (drawsOk h27) = true := by kernel_rfl
@[go_sem] theorem h27_t : h27.tk = [] := rfl
@[go_sem] theorem h27_m : h27.mt = [] := rfl
@[go_sem] theorem h27_p : h27.pc = [] := rfl
def h28 : Hint := ⟨[(0, [0, 1, 2]), (1, [2, 7]), (2, [2, 7, 13]), (3, [6]), (4, [2, 7, 15]), (5, [2, 7, 8]), (6, [2, 7, 8]), (7, [2, 7]), (8, [0]), (9, [6])], [31], [11], [], [11], []⟩
@[go_sem] theorem h28_l0 : h28.lv 0 = [0, 1, 2] := rfl
@[go_sem] theorem h28_g0 : h28.ct 0 = none := rfl
@[go_sem] theorem h28_z0 : h28.at 0 = [] := rfl
@[go_sem] theorem h28_l1 : h28.lv 1 = [2, 7] := rfl
@[go_sem] theorem h28_g1 : h28.ct 1 = none := rfl
@[go_sem] theorem h28_z1 : h28.at 1 = [] := rfl
@[go_sem] theorem h28_l2 : h28.lv 2 = [2, 7, 13] := rfl
@[go_sem] theorem h28_g2 : h28.ct 2 = none := rfl
@[go_sem] theorem h28_z2 : h28.at 2 = [] := rfl
@[go_sem] theorem h28_l3 : h28.lv 3 = [6] := rfl
@[go_sem] theorem h28_g3 : h28.ct 3 = none := rfl
@[go_sem] theorem h28_z3 : h28.at 3 = [] := rfl
@[go_sem] theorem h28_l4 : h28.lv 4 = [2, 7, 15] := rfl
@[go_sem] theorem h28_g4 : h28.ct 4 = none := rfl
@[go_sem] theorem h28_z4 : h28.at 4 = [] := rfl
@[go_sem] theorem h28_l5 : h28.lv 5 = [2, 7, 8] := rfl
@[go_sem] theorem h28_g5 : h28.ct 5 = none := rfl
@[go_sem] theorem h28_z5 : h28.at 5 = [] := rfl
@[go_sem] theorem h28_l6 : h28.lv 6 = [2, 7, 8] := rfl
@[go_sem] theorem h28_g6 : h28.ct 6 = none := rfl
@[go_sem] theorem h28_z6 : h28.at 6 = [] := rfl
@[go_sem] theorem h28_l7 : h28.lv 7 = [2, 7] := rfl
@[go_sem] theorem h28_g7 : h28.ct 7 = none := rfl
@[go_sem] theorem h28_z7 : h28.at 7 = [] := rfl
@[go_sem] theorem h28_l8 : h28.lv 8 = [0] := rfl
@[go_sem] theorem h28_g8 : h28.ct 8 = none := rfl
@[go_sem] theorem h28_z8 : h28.at 8 = [] := rfl
@[go_sem] theorem h28_l9 : h28.lv 9 = [6] := rfl
@[go_sem] theorem h28_g9 : h28.ct 9 = none := rfl
@[go_sem] theorem h28_z9 : h28.at 9 = [] := rfl
theorem h28_d : Try.f28.body.any (drawsOk h28) = true := by kernel_rfl
@[go_sem] theorem h28_t : h28.tk = [31] := rfl
@[go_sem] theorem h28_m : h28.mt = [11] := rfl
@[go_sem] theorem h28_p : h28.pc = [11] := rfl
def h29 : Hint := ⟨[(0, [0]), (1, [2])], [], [7], [], [7], []⟩
@[go_sem] theorem h29_l0 : h29.lv 0 = [0] := rfl
@[go_sem] theorem h29_g0 : h29.ct 0 = none := rfl
@[go_sem] theorem h29_z0 : h29.at 0 = [] := rfl
@[go_sem] theorem h29_l1 : h29.lv 1 = [2] := rfl
@[go_sem] theorem h29_g1 : h29.ct 1 = none := rfl
@[go_sem] theorem h29_z1 : h29.at 1 = [] := rfl
theorem h29_d : Try.f29.body.any (drawsOk h29) = true := by kernel_rfl
@[go_sem] theorem h29_t : h29.tk = [] := rfl
@[go_sem] theorem h29_m : h29.mt = [7] := rfl
@[go_sem] theorem h29_p : h29.pc = [7] := rfl
def h30 : Hint := ⟨[(0, [0]), (1, [2])], [], [], [], [], []⟩
@[go_sem] theorem h30_l0 : h30.lv 0 = [0] := rfl
@[go_sem] theorem h30_g0 : h30.ct 0 = none := rfl
@[go_sem] theorem h30_z0 : h30.at 0 = [] := rfl
@[go_sem] theorem h30_l1 : h30.lv 1 = [2] := rfl
@[go_sem] theorem h30_g1 : h30.ct 1 = none := rfl
@[go_sem] theorem h30_z1 : h30.at 1 = [] := rfl
theorem h30_d : Try.f30.body.any (drawsOk h30) = true := by kernel_rfl
@[go_sem] theorem h30_t : h30.tk = [] := rfl
@[go_sem] theorem h30_m : h30.mt = [] := rfl
@[go_sem] theorem h30_p : h30.pc = [] := rfl
def h31 : Hint := ⟨[(0, [0, 1]), (1, [4])], [5], [], [], [7], []⟩
@[go_sem] theorem h31_l0 : h31.lv 0 = [0, 1] := rfl
@[go_sem] theorem h31_g0 : h31.ct 0 = none := rfl
@[go_sem] theorem h31_z0 : h31.at 0 = [] := rfl
@[go_sem] theorem h31_l1 : h31.lv 1 = [4] := rfl
@[go_sem] theorem h31_g1 : h31.ct 1 = none := rfl
@[go_sem] theorem h31_z1 : h31.at 1 = [] := rfl
theorem h31_d : Try.f31.body.any (drawsOk h31) = true := by kernel_rfl
@[go_sem] theorem h31_t : h31.tk = [5] := rfl
@[go_sem] theorem h31_m : h31.mt = [] := rfl
@[go_sem] theorem h31_p : h31.pc = [7] := rfl
def h32 : Hint := ⟨[(0, [1, 2, 3]), (1, [1, 2, 3, 7]), (2, [1, 2, 3, 7, 11]), (3, [1, 2, 3, 7]), (4, [1, 2, 3, 7, 25]), (5, [6]), (6, [6])], [26], [], [], [], []⟩
@[go_sem] theorem h32_l0 : h32.lv 0 = [1, 2, 3] := rfl
@[go_sem] theorem h32_g0 : h32.ct 0 = none := rfl
@[go_sem] theorem h32_z0 : h32.at 0 = [] := rfl
@[go_sem] theorem h32_l1 : h32.lv 1 = [1, 2, 3, 7] := rfl
@[go_sem] theorem h32_g1 : h32.ct 1 = none := rfl
@[go_sem] theorem h32_z1 : h32.at 1 = [] := rfl
@[go_sem] theorem h32_l2 : h32.lv 2 = [1, 2, 3, 7, 11] := rfl
@[go_sem] theorem h32_g2 : h32.ct 2 = none := rfl
@[go_sem] theorem h32_z2 : h32.at 2 = [] := rfl
@[go_sem] theorem h32_l3 : h32.lv 3 = [1, 2, 3, 7] := rfl
@[go_sem] theorem h32_g3 : h32.ct 3 = none := rfl
@[go_sem] theorem h32_z3 : h32.at 3 = [] := rfl
@[go_sem] theorem h32_l4 : h32.lv 4 = [1, 2, 3, 7, 25] := rfl
@[go_sem] theorem h32_g4 : h32.ct 4 = none := rfl
@[go_sem] theorem h32_z4 : h32.at 4 = [] := rfl
@[go_sem] theorem h32_l5 : h32.lv 5 = [6] := rfl
@[go_sem] theorem h32_g5 : h32.ct 5 = none := rfl
@[go_sem] theorem h32_z5 : h32.at 5 = [] := rfl
@[go_sem] theorem h32_l6 : h32.lv 6 = [6] := rfl
@[go_sem] theorem h32_g6 : h32.ct 6 = none := rfl
@[go_sem] theorem h32_z6 : h32.at 6 = [] := rfl
theorem h32_d : Try.f32.body.any (drawsOk h32) = true := by kernel_rfl
@[go_sem] theorem h32_t : h32.tk = [26] := rfl
@[go_sem] theorem h32_m : h32.mt = [] := rfl
@[go_sem] theorem h32_p : h32.pc = [] := rfl
def h33 : Hint := ⟨[(0, [1, 3, 5, 6]), (1, [1, 3, 5, 6, 8]), (2, [1, 3, 5, 6, 14]), (3, [6, 7]), (4, [1, 3, 5, 6, 9]), (5, [1, 3, 5, 6, 9, 23]), (6, [1, 3, 6, 9]), (7, [6, 7]), (8, [1, 3, 5, 6, 9, 39]), (9, [1, 3, 6, 9]), (10, [6, 7]), (11, [1, 3, 5, 6, 9]), (12, [1, 3, 6, 9]), (13, [6, 7])], [], [], [], [12, 33, 49, 62, 67], []⟩
@[go_sem] theorem h33_l0 : h33.lv 0 = [1, 3, 5, 6] := rfl
@[go_sem] theorem h33_g0 : h33.ct 0 = none := rfl
@[go_sem] theorem h33_z0 : h33.at 0 = [] := rfl
@[go_sem] theorem h33_l1 : h33.lv 1 = [1, 3, 5, 6, 8] := rfl
@[go_sem] theorem h33_g1 : h33.ct 1 = none := rfl
@[go_sem] theorem h33_z1 : h33.at 1 = [] := rfl
@[go_sem] theorem h33_l2 : h33.lv 2 = [1, 3, 5, 6, 14] := rfl
@[go_sem] theorem h33_g2 : h33.ct 2 = none := rfl
@[go_sem] theorem h33_z2 : h33.at 2 = [] := rfl
@[go_sem] theorem h33_l3 : h33.lv 3 = [6, 7] := rfl
@[go_sem] theorem h33_g3 : h33.ct 3 = none := rfl
@[go_sem] theorem h33_z3 : h33.at 3 = [] := rfl
@[go_sem] theorem h33_l4 : h33.lv 4 = [1, 3, 5, 6, 9] := rfl
@[go_sem] theorem h33_g4 : h33.ct 4 = none := rfl
@[go_sem] theorem h33_z4 : h33.at 4 = [] := rfl
@[go_sem] theorem h33_l5 : h33.lv 5 = [1, 3, 5, 6, 9, 23] := rfl
@[go_sem] theorem h33_g5 : h33.ct 5 = none := rfl
@[go_sem] theorem h33_z5 : h33.at 5 = [] := rfl
@[go_sem] theorem h33_l6 : h33.lv 6 = [1, 3, 6, 9] := rfl
@[go_sem] theorem h33_g6 : h33.ct 6 = none := rfl
@[go_sem] theorem h33_z6 : h33.at 6 = [] := rfl
@[go_sem] theorem h33_l7 : h33.lv 7 = [6, 7] := rfl
@[go_sem] theorem h33_g7 : h33.ct 7 = none := rfl
@[go_sem] theorem h33_z7 : h33.at 7 = [] := rfl
@[go_sem] theorem h33_l8 : h33.lv 8 = [1, 3, 5, 6, 9, 39] := rfl
@[go_sem] theorem h33_g8 : h33.ct 8 = none := rfl
@[go_sem] theorem h33_z8 : h33.at 8 = [] := rfl
@[go_sem] theorem h33_l9 : h33.lv 9 = [1, 3, 6, 9] := rfl
@[go_sem] theorem h33_g9 : h33.ct 9 = none := rfl
@[go_sem] theorem h33_z9 : h33.at 9 = [] := rfl
@[go_sem] theorem h33_l10 : h33.lv 10 = [6, 7] := rfl
@[go_sem] theorem h33_g10 : h33.ct 10 = none := rfl
@[go_sem] theorem h33_z10 : h33.at 10 = [] := rfl
@[go_sem] theorem h33_l11 : h33.lv 11 = [1, 3, 5, 6, 9] := rfl
@[go_sem] theorem h33_g11 : h33.ct 11 = none := rfl
@[go_sem] theorem h33_z11 : h33.at 11 = [] := rfl
@[go_sem] theorem h33_l12 : h33.lv 12 = [1, 3, 6, 9] := rfl
@[go_sem] theorem h33_g12 : h33.ct 12 = none := rfl
@[go_sem] theorem h33_z12 : h33.at 12 = [] := rfl
@[go_sem] theorem h33_l13 : h33.lv 13 = [6, 7] := rfl
@[go_sem] theorem h33_g13 : h33.ct 13 = none := rfl
@[go_sem] theorem h33_z13 : h33.at 13 = [] := rfl
theorem h33_d : Try.f33.body.any (drawsOk h33) = true := by kernel_rfl
@[go_sem] theorem h33_t : h33.tk = [] := rfl
@[go_sem] theorem h33_m : h33.mt = [] := rfl
@[go_sem] theorem h33_p : h33.pc = [12, 33, 49, 62, 67] := rfl
def h34 : Hint := ⟨[(0, [1, 2]), (1, [1, 2, 4]), (2, [1, 2, 4]), (3, [1, 2, 4, 5]), (4, [1, 2, 4, 5, 19]), (5, [1, 2, 4, 5]), (6, [1, 2, 4, 5, 6]), (7, [1, 2, 4, 5, 6, 7]), (8, [1, 2, 4, 5, 6, 7, 8]), (9, [1, 2, 4, 5, 6, 7, 8, 31]), (10, [1, 2, 4, 5, 6, 7, 8]), (11, [1, 2, 4, 5, 6, 7, 8, 42]), (12, [1, 2, 4, 5, 6, 7, 8]), (13, [1, 2, 4, 5, 6, 7, 8]), (14, [1, 2, 4, 5, 6, 7, 8]), (15, [1, 2, 4, 5, 6, 7, 69]), (16, [1, 2, 4, 5, 6, 7, 9]), (17, [1, 2, 4, 5, 6, 7, 9, 10]), (18, [1, 2, 4, 5, 6, 7, 9, 10, 83]), (19, [1, 2, 4, 5, 6, 7, 9, 10]), (20, [1, 2, 4, 5, 6, 7, 9, 10]), (21, [1, 2, 4, 5, 6, 7]), (22, [1, 2, 4, 5, 6]), (23, [1, 2, 4, 5]), (24, [2, 3])], [43, 60, 86, 115], [], [], [113], [(5, 2)]⟩
@[go_sem] theorem h34_l0 : h34.lv 0 = [1, 2] := rfl
@[go_sem] theorem h34_g0 : h34.ct 0 = none := rfl
@[go_sem] theorem h34_z0 : h34.at 0 = [] := rfl
@[go_sem] theorem h34_l1 : h34.lv 1 = [1, 2, 4] := rfl
@[go_sem] theorem h34_g1 : h34.ct 1 = none := rfl
@[go_sem] theorem h34_z1 : h34.at 1 = [] := rfl
@[go_sem] theorem h34_l2 : h34.lv 2 = [1, 2, 4] := rfl
@[go_sem] theorem h34_g2 : h34.ct 2 = none := rfl
@[go_sem] theorem h34_z2 : h34.at 2 = [] := rfl
@[go_sem] theorem h34_l3 : h34.lv 3 = [1, 2, 4, 5] := rfl
@[go_sem] theorem h34_g3 : h34.ct 3 = none := rfl
@[go_sem] theorem h34_z3 : h34.at 3 = [] := rfl
@[go_sem] theorem h34_l4 : h34.lv 4 = [1, 2, 4, 5, 19] := rfl
@[go_sem] theorem h34_g4 : h34.ct 4 = none := rfl
@[go_sem] theorem h34_z4 : h34.at 4 = [] := rfl
@[go_sem] theorem h34_l5 : h34.lv 5 = [1, 2, 4, 5] := rfl
@[go_sem] theorem h34_g5 : h34.ct 5 = some 2 := rfl
@[go_sem] theorem h34_z5 : h34.at 5 = [] := rfl
@[go_sem] theorem h34_l6 : h34.lv 6 = [1, 2, 4, 5, 6] := rfl
@[go_sem] theorem h34_g6 : h34.ct 6 = none := rfl
@[go_sem] theorem h34_z6 : h34.at 6 = [] := rfl
@[go_sem] theorem h34_l7 : h34.lv 7 = [1, 2, 4, 5, 6, 7] := rfl
@[go_sem] theorem h34_g7 : h34.ct 7 = none := rfl
@[go_sem] theorem h34_z7 : h34.at 7 = [] := rfl
@[go_sem] theorem h34_l8 : h34.lv 8 = [1, 2, 4, 5, 6, 7, 8] := rfl
@[go_sem] theorem h34_g8 : h34.ct 8 = none := rfl
@[go_sem] theorem h34_z8 : h34.at 8 = [] := rfl
@[go_sem] theorem h34_l9 : h34.lv 9 = [1, 2, 4, 5, 6, 7, 8, 31] := rfl
@[go_sem] theorem h34_g9 : h34.ct 9 = none := rfl
@[go_sem] theorem h34_z9 : h34.at 9 = [] := rfl
@[go_sem] theorem h34_l10 : h34.lv 10 = [1, 2, 4, 5, 6, 7, 8] := rfl
@[go_sem] theorem h34_g10 : h34.ct 10 = none := rfl
@[go_sem] theorem h34_z10 : h34.at 10 = [] := rfl
@[go_sem] theorem h34_l11 : h34.lv 11 = [1, 2, 4, 5, 6, 7, 8, 42] := rfl
@[go_sem] theorem h34_g11 : h34.ct 11 = none := rfl
@[go_sem] theorem h34_z11 : h34.at 11 = [] := rfl
@[go_sem] theorem h34_l12 : h34.lv 12 = [1, 2, 4, 5, 6, 7, 8] := rfl
@[go_sem] theorem h34_g12 : h34.ct 12 = none := rfl
@[go_sem] theorem h34_z12 : h34.at 12 = [] := rfl
@[go_sem] theorem h34_l13 : h34.lv 13 = [1, 2, 4, 5, 6, 7, 8] := rfl
@[go_sem] theorem h34_g13 : h34.ct 13 = none := rfl
@[go_sem] theorem h34_z13 : h34.at 13 = [] := rfl
@[go_sem] theorem h34_l14 : h34.lv 14 = [1, 2, 4, 5, 6, 7, 8] := rfl
@[go_sem] theorem h34_g14 : h34.ct 14 = none := rfl
@[go_sem] theorem h34_z14 : h34.at 14 = [] := rfl
@[go_sem] theorem h34_l15 : h34.lv 15 = [1, 2, 4, 5, 6, 7, 69] := rfl
@[go_sem] theorem h34_g15 : h34.ct 15 = none := rfl
@[go_sem] theorem h34_z15 : h34.at 15 = [] := rfl
@[go_sem] theorem h34_l16 : h34.lv 16 = [1, 2, 4, 5, 6, 7, 9] := rfl
@[go_sem] theorem h34_g16 : h34.ct 16 = none := rfl
@[go_sem] theorem h34_z16 : h34.at 16 = [] := rfl
@[go_sem] theorem h34_l17 : h34.lv 17 = [1, 2, 4, 5, 6, 7, 9, 10] := rfl
@[go_sem] theorem h34_g17 : h34.ct 17 = none := rfl
@[go_sem] theorem h34_z17 : h34.at 17 = [] := rfl
@[go_sem] theorem h34_l18 : h34.lv 18 = [1, 2, 4, 5, 6, 7, 9, 10, 83] := rfl
@[go_sem] theorem h34_g18 : h34.ct 18 = none := rfl
@[go_sem] theorem h34_z18 : h34.at 18 = [] := rfl
@[go_sem] theorem h34_l19 : h34.lv 19 = [1, 2, 4, 5, 6, 7, 9, 10] := rfl
@[go_sem] theorem h34_g19 : h34.ct 19 = none := rfl
@[go_sem] theorem h34_z19 : h34.at 19 = [] := rfl
@[go_sem] theorem h34_l20 : h34.lv 20 = [1, 2, 4, 5, 6, 7, 9, 10] := rfl
@[go_sem] theorem h34_g20 : h34.ct 20 = none := rfl
@[go_sem] theorem h34_z20 : h34.at 20 = [] := rfl
@[go_sem] theorem h34_l21 : h34.lv 21 = [1, 2, 4, 5, 6, 7] := rfl
@[go_sem] theorem h34_g21 : h34.ct 21 = none := rfl
@[go_sem] theorem h34_z21 : h34.at 21 = [] := rfl
@[go_sem] theorem h34_l22 : h34.lv 22 = [1, 2, 4, 5, 6] := rfl
@[go_sem] theorem h34_g22 : h34.ct 22 = none := rfl
@[go_sem] theorem h34_z22 : h34.at 22 = [] := rfl
@[go_sem] theorem h34_l23 : h34.lv 23 = [1, 2, 4, 5] := rfl
@[go_sem] theorem h34_g23 : h34.ct 23 = none := rfl
@[go_sem] theorem h34_z23 : h34.at 23 = [] := rfl
@[go_sem] theorem h34_l24 : h34.lv 24 = [2, 3] := rfl
@[go_sem] theorem h34_g24 : h34.ct 24 = none := rfl
@[go_sem] theorem h34_z24 : h34.at 24 = [] := rfl
theorem h34_d : Try.f34.body.any (drawsOk h34) = true := by kernel_rfl
@[go_sem] theorem h34_t : h34.tk = [43, 60, 86, 115] := rfl
@[go_sem] theorem h34_m : h34.mt = [] := rfl
@[go_sem] theorem h34_p : h34.pc = [113] := rfl
def h35 : Hint := ⟨[(0, [1, 2, 3, 6]), (1, [1, 2, 3, 6, 8]), (2, [1, 2, 3, 6, 14]), (3, [6, 7]), (4, [1, 2, 3, 6, 9]), (5, [1, 2, 3, 6, 9, 22]), (6, [1, 2, 3, 6, 9]), (7, [1, 2, 3, 6, 9]), (8, [1, 3, 6, 9]), (9, [6, 7])], [], [], [], [12, 38], []⟩
@[go_sem] theorem h35_l0 : h35.lv 0 = [1, 2, 3, 6] := rfl
@[go_sem] theorem h35_g0 : h35.ct 0 = none := rfl
@[go_sem] theorem h35_z0 : h35.at 0 = [] := rfl
@[go_sem] theorem h35_l1 : h35.lv 1 = [1, 2, 3, 6, 8] := rfl
@[go_sem] theorem h35_g1 : h35.ct 1 = none := rfl
@[go_sem] theorem h35_z1 : h35.at 1 = [] := rfl
@[go_sem] theorem h35_l2 : h35.lv 2 = [1, 2, 3, 6, 14] := rfl
@[go_sem] theorem h35_g2 : h35.ct 2 = none := rfl
@[go_sem] theorem h35_z2 : h35.at 2 = [] := rfl
@[go_sem] theorem h35_l3 : h35.lv 3 = [6, 7] := rfl
@[go_sem] theorem h35_g3 : h35.ct 3 = none := rfl
@[go_sem] theorem h35_z3 : h35.at 3 = [] := rfl
@[go_sem] theorem h35_l4 : h35.lv 4 = [1, 2, 3, 6, 9] := rfl
@[go_sem] theorem h35_g4 : h35.ct 4 = none := rfl
@[go_sem] theorem h35_z4 : h35.at 4 = [] := rfl
@[go_sem] theorem h35_l5 : h35.lv 5 = [1, 2, 3, 6, 9, 22] := rfl
@[go_sem] theorem h35_g5 : h35.ct 5 = none := rfl
@[go_sem] theorem h35_z5 : h35.at 5 = [] := rfl
@[go_sem] theorem h35_l6 : h35.lv 6 = [1, 2, 3, 6, 9] := rfl
@[go_sem] theorem h35_g6 : h35.ct 6 = none := rfl
@[go_sem] theorem h35_z6 : h35.at 6 = [] := rfl
@[go_sem] theorem h35_l7 : h35.lv 7 = [1, 2, 3, 6, 9] := rfl
@[go_sem] theorem h35_g7 : h35.ct 7 = none := rfl
@[go_sem] theorem h35_z7 : h35.at 7 = [] := rfl
@[go_sem] theorem h35_l8 : h35.lv 8 = [1, 3, 6, 9] := rfl
@[go_sem] theorem h35_g8 : h35.ct 8 = none := rfl
@[go_sem] theorem h35_z8 : h35.at 8 = [] := rfl
@[go_sem] theorem h35_l9 : h35.lv 9 = [6, 7] := rfl
@[go_sem] theorem h35_g9 : h35.ct 9 = none := rfl
@[go_sem] theorem h35_z9 : h35.at 9 = [] := rfl
theorem h35_d : Try.f35.body.any (drawsOk h35) = true := by kernel_rfl
@[go_sem] theorem h35_t : h35.tk = [] := rfl
@[go_sem] theorem h35_m : h35.mt = [] := rfl
@[go_sem] theorem h35_p : h35.pc = [12, 38] := rfl
def h36 : Hint := ⟨[(0, [1]), (1, [1, 3]), (2, [1, 3, 8]), (3, [1, 3]), (4, [1, 3, 28]), (5, [2]), (6, [2])], [], [], [], [], []⟩
@[go_sem] theorem h36_l0 : h36.lv 0 = [1] := rfl
@[go_sem] theorem h36_g0 : h36.ct 0 = none := rfl
@[go_sem] theorem h36_z0 : h36.at 0 = [] := rfl
@[go_sem] theorem h36_l1 : h36.lv 1 = [1, 3] := rfl
@[go_sem] theorem h36_g1 : h36.ct 1 = none := rfl
@[go_sem] theorem h36_z1 : h36.at 1 = [] := rfl
@[go_sem] theorem h36_l2 : h36.lv 2 = [1, 3, 8] := rfl
@[go_sem] theorem h36_g2 : h36.ct 2 = none := rfl
@[go_sem] theorem h36_z2 : h36.at 2 = [] := rfl
@[go_sem] theorem h36_l3 : h36.lv 3 = [1, 3] := rfl
@[go_sem] theorem h36_g3 : h36.ct 3 = none := rfl
@[go_sem] theorem h36_z3 : h36.at 3 = [] := rfl
@[go_sem] theorem h36_l4 : h36.lv 4 = [1, 3, 28] := rfl
@[go_sem] theorem h36_g4 : h36.ct 4 = none := rfl
@[go_sem] theorem h36_z4 : h36.at 4 = [] := rfl
@[go_sem] theorem h36_l5 : h36.lv 5 = [2] := rfl
@[go_sem] theorem h36_g5 : h36.ct 5 = none := rfl
@[go_sem] theorem h36_z5 : h36.at 5 = [] := rfl
@[go_sem] theorem h36_l6 : h36.lv 6 = [2] := rfl
@[go_sem] theorem h36_g6 : h36.ct 6 = none := rfl
@[go_sem] theorem h36_z6 : h36.at 6 = [] := rfl
theorem h36_d : Try.f36.body.any (drawsOk h36) = true := by kernel_rfl
@[go_sem] theorem h36_t : h36.tk = [] := rfl
@[go_sem] theorem h36_m : h36.mt = [] := rfl
@[go_sem] theorem h36_p : h36.pc = [] := rfl
def h37 : Hint := ⟨[(0, [1, 2, 4]), (1, [1, 2, 4, 6]), (2, [1, 2, 4, 11]), (3, [4, 5]), (4, [4, 5])], [], [], [], [9], []⟩
@[go_sem] theorem h37_l0 : h37.lv 0 = [1, 2, 4] := rfl
@[go_sem] theorem h37_g0 : h37.ct 0 = none := rfl
@[go_sem] theorem h37_z0 : h37.at 0 = [] := rfl
@[go_sem] theorem h37_l1 : h37.lv 1 = [1, 2, 4, 6] := rfl
@[go_sem] theorem h37_g1 : h37.ct 1 = none := rfl
@[go_sem] theorem h37_z1 : h37.at 1 = [] := rfl
@[go_sem] theorem h37_l2 : h37.lv 2 = [1, 2, 4, 11] := rfl
@[go_sem] theorem h37_g2 : h37.ct 2 = none := rfl
@[go_sem] theorem h37_z2 : h37.at 2 = [] := rfl
@[go_sem] theorem h37_l3 : h37.lv 3 = [4, 5] := rfl
@[go_sem] theorem h37_g3 : h37.ct 3 = none := rfl
@[go_sem] theorem h37_z3 : h37.at 3 = [] := rfl
@[go_sem] theorem h37_l4 : h37.lv 4 = [4, 5] := rfl
@[go_sem] theorem h37_g4 : h37.ct 4 = none := rfl
@[go_sem] theorem h37_z4 : h37.at 4 = [] := rfl
theorem h37_d : Try.f37.body.any (drawsOk h37) = true := by kernel_rfl
@[go_sem] theorem h37_t : h37.tk = [] := rfl
@[go_sem] theorem h37_m : h37.mt = [] := rfl
@[go_sem] theorem h37_p : h37.pc = [9] := rfl
def h38 : Hint := ⟨[(0, [1, 2]), (1, [1, 2, 5]), (2, [4])], [], [], [], [8], []⟩
@[go_sem] theorem h38_l0 : h38.lv 0 = [1, 2] := rfl
@[go_sem] theorem h38_g0 : h38.ct 0 = none := rfl
@[go_sem] theorem h38_z0 : h38.at 0 = [] := rfl
@[go_sem] theorem h38_l1 : h38.lv 1 = [1, 2, 5] := rfl
@[go_sem] theorem h38_g1 : h38.ct 1 = none := rfl
@[go_sem] theorem h38_z1 : h38.at 1 = [] := rfl
@[go_sem] theorem h38_l2 : h38.lv 2 = [4] := rfl
@[go_sem] theorem h38_g2 : h38.ct 2 = none := rfl
@[go_sem] theorem h38_z2 : h38.at 2 = [] := rfl
theorem h38_d : Try.f38.body.any (drawsOk h38) = true := by kernel_rfl
@[go_sem] theorem h38_t : h38.tk = [] := rfl
@[go_sem] theorem h38_m : h38.mt = [] := rfl
@[go_sem] theorem h38_p : h38.pc = [8] := rfl
def h39 : Hint := ⟨[(0, [0, 1]), (1, [0, 1, 10]), (2, [4]), (3, [0, 1, 5]), (4, [0, 1, 5, 14]), (5, [0, 1, 5]), (6, [0, 1, 5, 25]), (7, [4]), (8, [4])], [], [], [], [], []⟩
@[go_sem] theorem h39_l0 : h39.lv 0 = [0, 1] := rfl
@[go_sem] theorem h39_g0 : h39.ct 0 = none := rfl
@[go_sem] theorem h39_z0 : h39.at 0 = [] := rfl
@[go_sem] theorem h39_l1 : h39.lv 1 = [0, 1, 10] := rfl
@[go_sem] theorem h39_g1 : h39.ct 1 = none := rfl
@[go_sem] theorem h39_z1 : h39.at 1 = [] := rfl
@[go_sem] theorem h39_l2 : h39.lv 2 = [4] := rfl
@[go_sem] theorem h39_g2 : h39.ct 2 = none := rfl
@[go_sem] theorem h39_z2 : h39.at 2 = [] := rfl
@[go_sem] theorem h39_l3 : h39.lv 3 = [0, 1, 5] := rfl
@[go_sem] theorem h39_g3 : h39.ct 3 = none := rfl
@[go_sem] theorem h39_z3 : h39.at 3 = [] := rfl
@[go_sem] theorem h39_l4 : h39.lv 4 = [0, 1, 5, 14] := rfl
@[go_sem] theorem h39_g4 : h39.ct 4 = none := rfl
@[go_sem] theorem h39_z4 : h39.at 4 = [] := rfl
@[go_sem] theorem h39_l5 : h39.lv 5 = [0, 1, 5] := rfl
@[go_sem] theorem h39_g5 : h39.ct 5 = none := rfl
@[go_sem] theorem h39_z5 : h39.at 5 = [] := rfl
@[go_sem] theorem h39_l6 : h39.lv 6 = [0, 1, 5, 25] := rfl
@[go_sem] theorem h39_g6 : h39.ct 6 = none := rfl
@[go_sem] theorem h39_z6 : h39.at 6 = [] := rfl
@[go_sem] theorem h39_l7 : h39.lv 7 = [4] := rfl
@[go_sem] theorem h39_g7 : h39.ct 7 = none := rfl
@[go_sem] theorem h39_z7 : h39.at 7 = [] := rfl
@[go_sem] theorem h39_l8 : h39.lv 8 = [4] := rfl
@[go_sem] theorem h39_g8 : h39.ct 8 = none := rfl
@[go_sem] theorem h39_z8 : h39.at 8 = [] := rfl
theorem h39_d : Try.f39.body.any (drawsOk h39) = true := by kernel_rfl
@[go_sem] theorem h39_t : h39.tk = [] := rfl
@[go_sem] theorem h39_m : h39.mt = [] := rfl
@[go_sem] theorem h39_p : h39.pc = [] := rfl
def h40 : Hint := ⟨[(0, [1, 2]), (1, [1, 2, 5]), (2, [1, 2, 10]), (3, [4]), (4, [4])], [], [], [], [8], []⟩
@[go_sem] theorem h40_l0 : h40.lv 0 = [1, 2] := rfl
@[go_sem] theorem h40_g0 : h40.ct 0 = none := rfl
@[go_sem] theorem h40_z0 : h40.at 0 = [] := rfl
@[go_sem] theorem h40_l1 : h40.lv 1 = [1, 2, 5] := rfl
@[go_sem] theorem h40_g1 : h40.ct 1 = none := rfl
@[go_sem] theorem h40_z1 : h40.at 1 = [] := rfl
@[go_sem] theorem h40_l2 : h40.lv 2 = [1, 2, 10] := rfl
@[go_sem] theorem h40_g2 : h40.ct 2 = none := rfl
@[go_sem] theorem h40_z2 : h40.at 2 = [] := rfl
@[go_sem] theorem h40_l3 : h40.lv 3 = [4] := rfl
@[go_sem] theorem h40_g3 : h40.ct 3 = none := rfl
@[go_sem] theorem h40_z3 : h40.at 3 = [] := rfl
@[go_sem] theorem h40_l4 : h40.lv 4 = [4] := rfl
@[go_sem] theorem h40_g4 : h40.ct 4 = none := rfl
@[go_sem] theorem h40_z4 : h40.at 4 = [] := rfl
theorem h40_d : Try.f40.body.any (drawsOk h40) = true := by kernel_rfl
@[go_sem] theorem h40_t : h40.tk = [] := rfl
@[go_sem] theorem h40_m : h40.mt = [] := rfl
@[go_sem] theorem h40_p : h40.pc = [8] := rfl
def h41 : Hint := ⟨[(0, [1, 2]), (1, [1, 2, 5]), (2, [1, 2, 12]), (3, [4]), (4, [1, 2, 6]), (5, [1, 2, 6, 7]), (6, [1, 2, 6, 7, 21]), (7, [1, 2, 6, 7]), (8, [1, 2, 6, 7]), (9, [4])], [24, 37], [], [], [10], []⟩
@[go_sem] theorem h41_l0 : h41.lv 0 = [1, 2] := rfl
@[go_sem] theorem h41_g0 : h41.ct 0 = none := rfl
@[go_sem] theorem h41_z0 : h41.at 0 = [] := rfl
@[go_sem] theorem h41_l1 : h41.lv 1 = [1, 2, 5] := rfl
@[go_sem] theorem h41_g1 : h41.ct 1 = none := rfl
@[go_sem] theorem h41_z1 : h41.at 1 = [] := rfl
@[go_sem] theorem h41_l2 : h41.lv 2 = [1, 2, 12] := rfl
@[go_sem] theorem h41_g2 : h41.ct 2 = none := rfl
@[go_sem] theorem h41_z2 : h41.at 2 = [] := rfl
@[go_sem] theorem h41_l3 : h41.lv 3 = [4] := rfl
@[go_sem] theorem h41_g3 : h41.ct 3 = none := rfl
@[go_sem] theorem h41_z3 : h41.at 3 = [] := rfl
@[go_sem] theorem h41_l4 : h41.lv 4 = [1, 2, 6] := rfl
@[go_sem] theorem h41_g4 : h41.ct 4 = none := rfl
@[go_sem] theorem h41_z4 : h41.at 4 = [] := rfl
@[go_sem] theorem h41_l5 : h41.lv 5 = [1, 2, 6, 7] := rfl
@[go_sem] theorem h41_g5 : h41.ct 5 = none := rfl
@[go_sem] theorem h41_z5 : h41.at 5 = [] := rfl
@[go_sem] theorem h41_l6 : h41.lv 6 = [1, 2, 6, 7, 21] := rfl
@[go_sem] theorem h41_g6 : h41.ct 6 = none := rfl
@[go_sem] theorem h41_z6 : h41.at 6 = [] := rfl
@[go_sem] theorem h41_l7 : h41.lv 7 = [1, 2, 6, 7] := rfl
@[go_sem] theorem h41_g7 : h41.ct 7 = none := rfl
@[go_sem] theorem h41_z7 : h41.at 7 = [] := rfl
@[go_sem] theorem h41_l8 : h41.lv 8 = [1, 2, 6, 7] := rfl
@[go_sem] theorem h41_g8 : h41.ct 8 = none := rfl
@[go_sem] theorem h41_z8 : h41.at 8 = [] := rfl
@[go_sem] theorem h41_l9 : h41.lv 9 = [4] := rfl
@[go_sem] theorem h41_g9 : h41.ct 9 = none := rfl
@[go_sem] theorem h41_z9 : h41.at 9 = [] := rfl
theorem h41_d : Try.f41.body.any (drawsOk h41) = true := by kernel_rfl
@[go_sem] theorem h41_t : h41.tk = [24, 37] := rfl
@[go_sem] theorem h41_m : h41.mt = [] := rfl
@[go_sem] theorem h41_p : h41.pc = [10] := rfl
def h42 : Hint := ⟨[(0, [0, 1]), (1, [0, 1, 15]), (2, [4]), (3, [4])], [], [], [], [], []⟩
@[go_sem] theorem h42_l0 : h42.lv 0 = [0, 1] := rfl
@[go_sem] theorem h42_g0 : h42.ct 0 = none := rfl
@[go_sem] theorem h42_z0 : h42.at 0 = [] := rfl
@[go_sem] theorem h42_l1 : h42.lv 1 = [0, 1, 15] := rfl
@[go_sem] theorem h42_g1 : h42.ct 1 = none := rfl
@[go_sem] theorem h42_z1 : h42.at 1 = [] := rfl
@[go_sem] theorem h42_l2 : h42.lv 2 = [4] := rfl
@[go_sem] theorem h42_g2 : h42.ct 2 = none := rfl
@[go_sem] theorem h42_z2 : h42.at 2 = [] := rfl
@[go_sem] theorem h42_l3 : h42.lv 3 = [4] := rfl
@[go_sem] theorem h42_g3 : h42.ct 3 = none := rfl
@[go_sem] theorem h42_z3 : h42.at 3 = [] := rfl
theorem h42_d : Try.f42.body.any (drawsOk h42) = true := by kernel_rfl
@[go_sem] theorem h42_t : h42.tk = [] := rfl
@[go_sem] theorem h42_m : h42.mt = [] := rfl
@[go_sem] theorem h42_p : h42.pc = [] := rfl
def h43 : Hint := ⟨[(0, [0]), (1, [0, 4]), (2, [2]), (3, [2])], [6], [], [], [], []⟩
@[go_sem] theorem h43_l0 : h43.lv 0 = [0] := rfl
@[go_sem] theorem h43_g0 : h43.ct 0 = none := rfl
@[go_sem] theorem h43_z0 : h43.at 0 = [] := rfl
@[go_sem] theorem h43_l1 : h43.lv 1 = [0, 4] := rfl
@[go_sem] theorem h43_g1 : h43.ct 1 = none := rfl
@[go_sem] theorem h43_z1 : h43.at 1 = [] := rfl
@[go_sem] theorem h43_l2 : h43.lv 2 = [2] := rfl
@[go_sem] theorem h43_g2 : h43.ct 2 = none := rfl
@[go_sem] theorem h43_z2 : h43.at 2 = [] := rfl
@[go_sem] theorem h43_l3 : h43.lv 3 = [2] := rfl
@[go_sem] theorem h43_g3 : h43.ct 3 = none := rfl
@[go_sem] theorem h43_z3 : h43.at 3 = [] := rfl
theorem h43_d : Try.f43.body.any (drawsOk h43) = true := by kernel_rfl
@[go_sem] theorem h43_t : h43.tk = [6] := rfl
@[go_sem] theorem h43_m : h43.mt = [] := rfl
@[go_sem] theorem h43_p : h43.pc = [] := rfl
def h44 : Hint := ⟨[(0, [0, 1]), (1, [0, 1, 6]), (2, [1]), (3, [1]), (4, [4])], [], [], [], [], []⟩
@[go_sem] theorem h44_l0 : h44.lv 0 = [0, 1] := rfl
@[go_sem] theorem h44_g0 : h44.ct 0 = none := rfl
@[go_sem] theorem h44_z0 : h44.at 0 = [] := rfl
@[go_sem] theorem h44_l1 : h44.lv 1 = [0, 1, 6] := rfl
@[go_sem] theorem h44_g1 : h44.ct 1 = none := rfl
@[go_sem] theorem h44_z1 : h44.at 1 = [] := rfl
@[go_sem] theorem h44_l2 : h44.lv 2 = [1] := rfl
@[go_sem] theorem h44_g2 : h44.ct 2 = none := rfl
@[go_sem] theorem h44_z2 : h44.at 2 = [] := rfl
@[go_sem] theorem h44_l3 : h44.lv 3 = [1] := rfl
@[go_sem] theorem h44_g3 : h44.ct 3 = none := rfl
@[go_sem] theorem h44_z3 : h44.at 3 = [] := rfl
@[go_sem] theorem h44_l4 : h44.lv 4 = [4] := rfl
@[go_sem] theorem h44_g4 : h44.ct 4 = none := rfl
@[go_sem] theorem h44_z4 : h44.at 4 = [] := rfl
theorem h44_d : Try.f44.body.any (drawsOk h44) = true := by kernel_rfl
@[go_sem] theorem h44_t : h44.tk = [] := rfl
@[go_sem] theorem h44_m : h44.mt = [] := rfl
@[go_sem] theorem h44_p : h44.pc = [] := rfl
def h45 : Hint := ⟨[(0, [0, 2]), (1, [0])], [], [], [], [], []⟩
@[go_sem] theorem h45_l0 : h45.lv 0 = [0, 2] := rfl
@[go_sem] theorem h45_g0 : h45.ct 0 = none := rfl
@[go_sem] theorem h45_z0 : h45.at 0 = [] := rfl
@[go_sem] theorem h45_l1 : h45.lv 1 = [0] := rfl
@[go_sem] theorem h45_g1 : h45.ct 1 = none := rfl
@[go_sem] theorem h45_z1 : h45.at 1 = [] := rfl
theorem h45_d : Try.f45.body.any (drawsOk h45) = true := by kernel_rfl
@[go_sem] theorem h45_t : h45.tk = [] := rfl
@[go_sem] theorem h45_m : h45.mt = [] := rfl
@[go_sem] theorem h45_p : h45.pc = [] := rfl
def h46 : Hint := ⟨[(0, [0]), (1, [0, 4]), (2, [2]), (3, [2])], [6], [5, 7], [], [], []⟩
@[go_sem] theorem h46_l0 : h46.lv 0 = [0] := rfl
@[go_sem] theorem h46_g0 : h46.ct 0 = none := rfl
@[go_sem] theorem h46_z0 : h46.at 0 = [] := rfl
@[go_sem] theorem h46_l1 : h46.lv 1 = [0, 4] := rfl
@[go_sem] theorem h46_g1 : h46.ct 1 = none := rfl
@[go_sem] theorem h46_z1 : h46.at 1 = [] := rfl
@[go_sem] theorem h46_l2 : h46.lv 2 = [2] := rfl
@[go_sem] theorem h46_g2 : h46.ct 2 = none := rfl
@[go_sem] theorem h46_z2 : h46.at 2 = [] := rfl
@[go_sem] theorem h46_l3 : h46.lv 3 = [2] := rfl
@[go_sem] theorem h46_g3 : h46.ct 3 = none := rfl
@[go_sem] theorem h46_z3 : h46.at 3 = [] := rfl
theorem h46_d : Try.f46.body.any (drawsOk h46) = true := by kernel_rfl
@[go_sem] theorem h46_t : h46.tk = [6] := rfl
@[go_sem] theorem h46_m : h46.mt = [5, 7] := rfl
@[go_sem] theorem h46_p : h46.pc = [] := rfl
def h47 : Hint := ⟨[(0, [1]), (1, [1, 4]), (2, [1, 4, 5]), (3, [1, 4, 5, 6]), (4, [1, 4, 5, 6, 12]), (5, [1, 4, 5, 6]), (6, [1, 4, 5, 6]), (7, [1, 4, 5, 7]), (8, [1, 4, 5, 7, 28]), (9, [1, 4, 5, 7]), (10, [1, 4, 5, 7]), (11, [2, 3])], [15, 31, 40, 41], [], [], [], []⟩
@[go_sem] theorem h47_l0 : h47.lv 0 = [1] := rfl
@[go_sem] theorem h47_g0 : h47.ct 0 = none := rfl
@[go_sem] theorem h47_z0 : h47.at 0 = [] := rfl
@[go_sem] theorem h47_l1 : h47.lv 1 = [1, 4] := rfl
@[go_sem] theorem h47_g1 : h47.ct 1 = none := rfl
@[go_sem] theorem h47_z1 : h47.at 1 = [] := rfl
@[go_sem] theorem h47_l2 : h47.lv 2 = [1, 4, 5] := rfl
@[go_sem] theorem h47_g2 : h47.ct 2 = none := rfl
@[go_sem] theorem h47_z2 : h47.at 2 = [] := rfl
@[go_sem] theorem h47_l3 : h47.lv 3 = [1, 4, 5, 6] := rfl
@[go_sem] theorem h47_g3 : h47.ct 3 = none := rfl
@[go_sem] theorem h47_z3 : h47.at 3 = [] := rfl
@[go_sem] theorem h47_l4 : h47.lv 4 = [1, 4, 5, 6, 12] := rfl
@[go_sem] theorem h47_g4 : h47.ct 4 = none := rfl
@[go_sem] theorem h47_z4 : h47.at 4 = [] := rfl
@[go_sem] theorem h47_l5 : h47.lv 5 = [1, 4, 5, 6] := rfl
@[go_sem] theorem h47_g5 : h47.ct 5 = none := rfl
@[go_sem] theorem h47_z5 : h47.at 5 = [] := rfl
@[go_sem] theorem h47_l6 : h47.lv 6 = [1, 4, 5, 6] := rfl
@[go_sem] theorem h47_g6 : h47.ct 6 = none := rfl
@[go_sem] theorem h47_z6 : h47.at 6 = [] := rfl
@[go_sem] theorem h47_l7 : h47.lv 7 = [1, 4, 5, 7] := rfl
@[go_sem] theorem h47_g7 : h47.ct 7 = none := rfl
@[go_sem] theorem h47_z7 : h47.at 7 = [] := rfl
@[go_sem] theorem h47_l8 : h47.lv 8 = [1, 4, 5, 7, 28] := rfl
@[go_sem] theorem h47_g8 : h47.ct 8 = none := rfl
@[go_sem] theorem h47_z8 : h47.at 8 = [] := rfl
@[go_sem] theorem h47_l9 : h47.lv 9 = [1, 4, 5, 7] := rfl
@[go_sem] theorem h47_g9 : h47.ct 9 = none := rfl
@[go_sem] theorem h47_z9 : h47.at 9 = [] := rfl
@[go_sem] theorem h47_l10 : h47.lv 10 = [1, 4, 5, 7] := rfl
@[go_sem] theorem h47_g10 : h47.ct 10 = none := rfl
@[go_sem] theorem h47_z10 : h47.at 10 = [] := rfl
@[go_sem] theorem h47_l11 : h47.lv 11 = [2, 3] := rfl
@[go_sem] theorem h47_g11 : h47.ct 11 = none := rfl
@[go_sem] theorem h47_z11 : h47.at 11 = [] := rfl
theorem h47_d : Try.f47.body.any (drawsOk h47) = true := by kernel_rfl
@[go_sem] theorem h47_t : h47.tk = [15, 31, 40, 41] := rfl
@[go_sem] theorem h47_m : h47.mt = [] := rfl
@[go_sem] theorem h47_p : h47.pc = [] := rfl
def h48 : Hint := ⟨[(0, [0]), (1, [0, 3]), (2, [0, 3, 9]), (3, [0, 3]), (4, [0, 3, 4]), (5, [0, 3, 18]), (6, [2]), (7, [0, 3, 5]), (8, [0, 3, 5, 21]), (9, [0, 3, 5]), (10, [0, 3, 5, 32]), (11, [2]), (12, [2])], [], [], [], [], []⟩
@[go_sem] theorem h48_l0 : h48.lv 0 = [0] := rfl
@[go_sem] theorem h48_g0 : h48.ct 0 = none := rfl
@[go_sem] theorem h48_z0 : h48.at 0 = [] := rfl
@[go_sem] theorem h48_l1 : h48.lv 1 = [0, 3] := rfl
@[go_sem] theorem h48_g1 : h48.ct 1 = none := rfl
@[go_sem] theorem h48_z1 : h48.at 1 = [] := rfl
@[go_sem] theorem h48_l2 : h48.lv 2 = [0, 3, 9] := rfl
@[go_sem] theorem h48_g2 : h48.ct 2 = none := rfl
@[go_sem] theorem h48_z2 : h48.at 2 = [] := rfl
@[go_sem] theorem h48_l3 : h48.lv 3 = [0, 3] := rfl
@[go_sem] theorem h48_g3 : h48.ct 3 = none := rfl
@[go_sem] theorem h48_z3 : h48.at 3 = [] := rfl
@[go_sem] theorem h48_l4 : h48.lv 4 = [0, 3, 4] := rfl
@[go_sem] theorem h48_g4 : h48.ct 4 = none := rfl
@[go_sem] theorem h48_z4 : h48.at 4 = [] := rfl
@[go_sem] theorem h48_l5 : h48.lv 5 = [0, 3, 18] := rfl
@[go_sem] theorem h48_g5 : h48.ct 5 = none := rfl
@[go_sem] theorem h48_z5 : h48.at 5 = [] := rfl
@[go_sem] theorem h48_l6 : h48.lv 6 = [2] := rfl
@[go_sem] theorem h48_g6 : h48.ct 6 = none := rfl
@[go_sem] theorem h48_z6 : h48.at 6 = [] := rfl
@[go_sem] theorem h48_l7 : h48.lv 7 = [0, 3, 5] := rfl
@[go_sem] theorem h48_g7 : h48.ct 7 = none := rfl
@[go_sem] theorem h48_z7 : h48.at 7 = [] := rfl
@[go_sem] theorem h48_l8 : h48.lv 8 = [0, 3, 5, 21] := rfl
@[go_sem] theorem h48_g8 : h48.ct 8 = none := rfl
@[go_sem] theorem h48_z8 : h48.at 8 = [] := rfl
@[go_sem] theorem h48_l9 : h48.lv 9 = [0, 3, 5] := rfl
@[go_sem] theorem h48_g9 : h48.ct 9 = none := rfl
@[go_sem] theorem h48_z9 : h48.at 9 = [] := rfl
@[go_sem] theorem h48_l10 : h48.lv 10 = [0, 3, 5, 32] := rfl
@[go_sem] theorem h48_g10 : h48.ct 10 = none := rfl
@[go_sem] theorem h48_z10 : h48.at 10 = [] := rfl
@[go_sem] theorem h48_l11 : h48.lv 11 = [2] := rfl
@[go_sem] theorem h48_g11 : h48.ct 11 = none := rfl
@[go_sem] theorem h48_z11 : h48.at 11 = [] := rfl
@[go_sem] theorem h48_l12 : h48.lv 12 = [2] := rfl
@[go_sem] theorem h48_g12 : h48.ct 12 = none := rfl
@[go_sem] theorem h48_z12 : h48.at 12 = [] := rfl
theorem h48_d : Try.f48.body.any (drawsOk h48) = true := by kernel_rfl
@[go_sem] theorem h48_t : h48.tk = [] := rfl
@[go_sem] theorem h48_m : h48.mt = [] := rfl
@[go_sem] theorem h48_p : h48.pc = [] := rfl
def h49 : Hint := ⟨[(0, [1, 2]), (1, [4])], [], [], [], [], []⟩
@[go_sem] theorem h49_l0 : h49.lv 0 = [1, 2] := rfl
@[go_sem] theorem h49_g0 : h49.ct 0 = none := rfl
@[go_sem] theorem h49_z0 : h49.at 0 = [] := rfl
@[go_sem] theorem h49_l1 : h49.lv 1 = [4] := rfl
@[go_sem] theorem h49_g1 : h49.ct 1 = none := rfl
@[go_sem] theorem h49_z1 : h49.at 1 = [] := rfl
theorem h49_d : Try.f49.body.any (drawsOk h49) = true := by kernel_rfl
@[go_sem] theorem h49_t : h49.tk = [] := rfl
@[go_sem] theorem h49_m : h49.mt = [] := rfl
@[go_sem] theorem h49_p : h49.pc = [] := rfl
def h50 : Hint := ⟨[(0, [0, 1]), (1, [4])], [5], [7], [], [7], []⟩
@[go_sem] theorem h50_l0 : h50.lv 0 = [0, 1] := rfl
@[go_sem] theorem h50_g0 : h50.ct 0 = none := rfl
@[go_sem] theorem h50_z0 : h50.at 0 = [] := rfl
@[go_sem] theorem h50_l1 : h50.lv 1 = [4] := rfl
@[go_sem] theorem h50_g1 : h50.ct 1 = none := rfl
@[go_sem] theorem h50_z1 : h50.at 1 = [] := rfl
theorem h50_d : Try.f50.body.any (drawsOk h50) = true := by kernel_rfl
@[go_sem] theorem h50_t : h50.tk = [5] := rfl
@[go_sem] theorem h50_m : h50.mt = [7] := rfl
@[go_sem] theorem h50_p : h50.pc = [7] := rfl
def h51 : Hint := ⟨[(0, [1]), (1, [2])], [], [], [], [], []⟩
@[go_sem] theorem h51_l0 : h51.lv 0 = [1] := rfl
@[go_sem] theorem h51_g0 : h51.ct 0 = none := rfl
@[go_sem] theorem h51_z0 : h51.at 0 = [] := rfl
@[go_sem] theorem h51_l1 : h51.lv 1 = [2] := rfl
@[go_sem] theorem h51_g1 : h51.ct 1 = none := rfl
@[go_sem] theorem h51_z1 : h51.at 1 = [] := rfl
theorem h51_d : Try.f51.body.any (drawsOk h51) = true := by kernel_rfl
@[go_sem] theorem h51_t : h51.tk = [] := rfl
@[go_sem] theorem h51_m : h51.mt = [] := rfl
@[go_sem] theorem h51_p : h51.pc = [] := rfl
def h52 : Hint := ⟨[(0, [0, 1]), (1, [0, 1, 7, 8]), (2, [0, 1, 7, 8, 9]), (3, [0, 1, 5, 7, 8]), (4, [0, 1, 5, 7, 8, 16]), (5, [4]), (6, [0, 1, 7, 8]), (7, [4])], [], [], [], [16], []⟩
@[go_sem] theorem h52_l0 : h52.lv 0 = [0, 1] := rfl
@[go_sem] theorem h52_g0 : h52.ct 0 = none := rfl
@[go_sem] theorem h52_z0 : h52.at 0 = [] := rfl
@[go_sem] theorem h52_l1 : h52.lv 1 = [0, 1, 7, 8] := rfl
@[go_sem] theorem h52_g1 : h52.ct 1 = none := rfl
@[go_sem] theorem h52_z1 : h52.at 1 = [] := rfl
@[go_sem] theorem h52_l2 : h52.lv 2 = [0, 1, 7, 8, 9] := rfl
@[go_sem] theorem h52_g2 : h52.ct 2 = none := rfl
@[go_sem] theorem h52_z2 : h52.at 2 = [] := rfl
@[go_sem] theorem h52_l3 : h52.lv 3 = [0, 1, 5, 7, 8] := rfl
@[go_sem] theorem h52_g3 : h52.ct 3 = none := rfl
@[go_sem] theorem h52_z3 : h52.at 3 = [] := rfl
@[go_sem] theorem h52_l4 : h52.lv 4 = [0, 1, 5, 7, 8, 16] := rfl
@[go_sem] theorem h52_g4 : h52.ct 4 = none := rfl
@[go_sem] theorem h52_z4 : h52.at 4 = [] := rfl
@[go_sem] theorem h52_l5 : h52.lv 5 = [4] := rfl
@[go_sem] theorem h52_g5 : h52.ct 5 = none := rfl
@[go_sem] theorem h52_z5 : h52.at 5 = [] := rfl
@[go_sem] theorem h52_l6 : h52.lv 6 = [0, 1, 7, 8] := rfl
@[go_sem] theorem h52_g6 : h52.ct 6 = none := rfl
@[go_sem] theorem h52_z6 : h52.at 6 = [] := rfl
@[go_sem] theorem h52_l7 : h52.lv 7 = [4] := rfl
@[go_sem] theorem h52_g7 : h52.ct 7 = none := rfl
@[go_sem] theorem h52_z7 : h52.at 7 = [] := rfl
theorem h52_d : Try.f52.body.any (drawsOk h52) = true := by kernel_rfl
@[go_sem] theorem h52_t : h52.tk = [] := rfl
@[go_sem] theorem h52_m : h52.mt = [] := rfl
@[go_sem] theorem h52_p : h52.pc = [16] := rfl
def h53 : Hint := ⟨[(0, [1, 2]), (1, [4])], [], [], [], [], []⟩
@[go_sem] theorem h53_l0 : h53.lv 0 = [1, 2] := rfl
@[go_sem] theorem h53_g0 : h53.ct 0 = none := rfl
@[go_sem] theorem h53_z0 : h53.at 0 = [] := rfl
@[go_sem] theorem h53_l1 : h53.lv 1 = [4] := rfl
@[go_sem] theorem h53_g1 : h53.ct 1 = none := rfl
@[go_sem] theorem h53_z1 : h53.at 1 = [] := rfl
theorem h53_d : Try.f53.body.any (drawsOk h53) = true := by kernel_rfl
@[go_sem] theorem h53_t : h53.tk = [] := rfl
@[go_sem] theorem h53_m : h53.mt = [] := rfl
@[go_sem] theorem h53_p : h53.pc = [] := rfl
def h54 : Hint := ⟨[(0, [1, 3, 5, 6]), (1, [1, 3, 5, 6, 7]), (2, [3, 6, 7]), (3, [3, 6]), (4, [6])], [16], [8, 11], [(2, [(7, none, true)])], [], []⟩
@[go_sem] theorem h54_l0 : h54.lv 0 = [1, 3, 5, 6] := rfl
@[go_sem] theorem h54_g0 : h54.ct 0 = none := rfl
@[go_sem] theorem h54_z0 : h54.at 0 = [] := rfl
@[go_sem] theorem h54_l1 : h54.lv 1 = [1, 3, 5, 6, 7] := rfl
@[go_sem] theorem h54_g1 : h54.ct 1 = none := rfl
@[go_sem] theorem h54_z1 : h54.at 1 = [] := rfl
@[go_sem] theorem h54_l2 : h54.lv 2 = [3, 6, 7] := rfl
@[go_sem] theorem h54_g2 : h54.ct 2 = none := rfl
@[go_sem] theorem h54_z2 : h54.at 2 = [(7, none, true)] := rfl
@[go_sem] theorem h54_l3 : h54.lv 3 = [3, 6] := rfl
@[go_sem] theorem h54_g3 : h54.ct 3 = none := rfl
@[go_sem] theorem h54_z3 : h54.at 3 = [] := rfl
@[go_sem] theorem h54_l4 : h54.lv 4 = [6] := rfl
@[go_sem] theorem h54_g4 : h54.ct 4 = none := rfl
@[go_sem] theorem h54_z4 : h54.at 4 = [] := rfl
theorem h54_d : Try.f54.body.any (drawsOk h54) = true := by kernel_rfl
@[go_sem] theorem h54_t : h54.tk = [16] := rfl
@[go_sem] theorem h54_m : h54.mt = [8, 11] := rfl
@[go_sem] theorem h54_p : h54.pc = [] := rfl
def h55 : Hint := ⟨[(0, [0]), (1, [0, 3]), (2, [0, 3, 9]), (3, [0, 3]), (4, [0, 3, 4]), (5, [0, 3, 4, 5]), (6, [0, 3, 47]), (7, [2]), (8, [2])], [], [], [], [], []⟩
@[go_sem] theorem h55_l0 : h55.lv 0 = [0] := rfl
@[go_sem] theorem h55_g0 : h55.ct 0 = none := rfl
@[go_sem] theorem h55_z0 : h55.at 0 = [] := rfl
@[go_sem] theorem h55_l1 : h55.lv 1 = [0, 3] := rfl
@[go_sem] theorem h55_g1 : h55.ct 1 = none := rfl
@[go_sem] theorem h55_z1 : h55.at 1 = [] := rfl
@[go_sem] theorem h55_l2 : h55.lv 2 = [0, 3, 9] := rfl
@[go_sem] theorem h55_g2 : h55.ct 2 = none := rfl
@[go_sem] theorem h55_z2 : h55.at 2 = [] := rfl
@[go_sem] theorem h55_l3 : h55.lv 3 = [0, 3] := rfl
@[go_sem] theorem h55_g3 : h55.ct 3 = none := rfl
@[go_sem] theorem h55_z3 : h55.at 3 = [] := rfl
@[go_sem] theorem h55_l4 : h55.lv 4 = [0, 3, 4] := rfl
@[go_sem] theorem h55_g4 : h55.ct 4 = none := rfl
@[go_sem] theorem h55_z4 : h55.at 4 = [] := rfl
@[go_sem] theorem h55_l5 : h55.lv 5 = [0, 3, 4, 5] := rfl
@[go_sem] theorem h55_g5 : h55.ct 5 = none := rfl
@[go_sem] theorem h55_z5 : h55.at 5 = [] := rfl
@[go_sem] theorem h55_l6 : h55.lv 6 = [0, 3, 47] := rfl
@[go_sem] theorem h55_g6 : h55.ct 6 = none := rfl
@[go_sem] theorem h55_z6 : h55.at 6 = [] := rfl
@[go_sem] theorem h55_l7 : h55.lv 7 = [2] := rfl
@[go_sem] theorem h55_g7 : h55.ct 7 = none := rfl
@[go_sem] theorem h55_z7 : h55.at 7 = [] := rfl
@[go_sem] theorem h55_l8 : h55.lv 8 = [2] := rfl
@[go_sem] theorem h55_g8 : h55.ct 8 = none := rfl
@[go_sem] theorem h55_z8 : h55.at 8 = [] := rfl
theorem h55_d : Try.f55.body.any (drawsOk h55) = true := by kernel_rfl
@[go_sem] theorem h55_t : h55.tk = [] := rfl
@[go_sem] theorem h55_m : h55.mt = [] := rfl
@[go_sem] theorem h55_p : h55.pc = [] := rfl
def h56 : Hint := ⟨[(0, [0, 1]), (1, [0, 1, 7, 8]), (2, [0, 1, 7, 8, 9]), (3, [0, 1, 5, 7, 8]), (4, [0, 1, 5, 7, 8, 16]), (5, [4]), (6, [0, 1, 7, 8]), (7, [4])], [], [], [], [16], []⟩
@[go_sem] theorem h56_l0 : h56.lv 0 = [0, 1] := rfl
@[go_sem] theorem h56_g0 : h56.ct 0 = none := rfl
@[go_sem] theorem h56_z0 : h56.at 0 = [] := rfl
@[go_sem] theorem h56_l1 : h56.lv 1 = [0, 1, 7, 8] := rfl
@[go_sem] theorem h56_g1 : h56.ct 1 = none := rfl
@[go_sem] theorem h56_z1 : h56.at 1 = [] := rfl
@[go_sem] theorem h56_l2 : h56.lv 2 = [0, 1, 7, 8, 9] := rfl
@[go_sem] theorem h56_g2 : h56.ct 2 = none := rfl
@[go_sem] theorem h56_z2 : h56.at 2 = [] := rfl
@[go_sem] theorem h56_l3 : h56.lv 3 = [0, 1, 5, 7, 8] := rfl
@[go_sem] theorem h56_g3 : h56.ct 3 = none := rfl
@[go_sem] theorem h56_z3 : h56.at 3 = [] := rfl
@[go_sem] theorem h56_l4 : h56.lv 4 = [0, 1, 5, 7, 8, 16] := rfl
@[go_sem] theorem h56_g4 : h56.ct 4 = none := rfl
@[go_sem] theorem h56_z4 : h56.at 4 = [] := rfl
@[go_sem] theorem h56_l5 : h56.lv 5 = [4] := rfl
@[go_sem] theorem h56_g5 : h56.ct 5 = none := rfl
@[go_sem] theorem h56_z5 : h56.at 5 = [] := rfl
@[go_sem] theorem h56_l6 : h56.lv 6 = [0, 1, 7, 8] := rfl
@[go_sem] theorem h56_g6 : h56.ct 6 = none := rfl
@[go_sem] theorem h56_z6 : h56.at 6 = [] := rfl
@[go_sem] theorem h56_l7 : h56.lv 7 = [4] := rfl
@[go_sem] theorem h56_g7 : h56.ct 7 = none := rfl
@[go_sem] theorem h56_z7 : h56.at 7 = [] := rfl
theorem h56_d : Try.f56.body.any (drawsOk h56) = true := by kernel_rfl
@[go_sem] theorem h56_t : h56.tk = [] := rfl
@[go_sem] theorem h56_m : h56.mt = [] := rfl
@[go_sem] theorem h56_p : h56.pc = [16] := rfl
end Go.AI
