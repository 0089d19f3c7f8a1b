import Derived.Test.YtmiffikcnkgcpaaGreatDoorProg
import Derived.Test.YtmiffikcnkgcpaaGreatDoorAbTell
namespace Go.Proofs.YtmiffikcnkgcpaaGreatDoor
open Go Go.Ab
def ownL : List (Nat × Nat) := [(25, 7)]
def clrL : List (Nat × Nat × List Nat) := [(16, 7, [25, 26, 27, 34, 35, 36]), (16, 4, [14, 15, 16, 22, 23, 24]), (17, 7, [23, 24, 25, 26, 27, 28, 29, 30, 31, 32, 33, 34]), (17, 4, [13, 14, 15, 16, 17, 18, 19, 20, 21, 22]), (21, 4, [6, 7, 12, 13, 26, 27, 28, 29, 30, 32, 33, 39, 40, 44, 45, 51, 52, 53, 54, 55, 56, 57]), (23, 8, [4, 5, 8, 9, 10, 11, 29, 30, 31, 32, 33, 34, 35, 36, 37, 38, 39, 40, 43, 44, 51, 52, 53, 54, 55, 56]), (25, 3, [8, 9, 10, 11, 12, 13, 14, 15, 16, 17, 18, 19, 20, 21, 22, 23, 24, 25, 26, 27, 28, 29, 30, 31, 32, 33, 34, 35, 36, 37, 38]), (29, 16, [10, 11, 50, 51, 52, 53, 54, 55, 56, 57, 58, 59, 60, 61, 62, 63]), (29, 4, [7, 8, 15, 16, 17, 18, 19, 20, 21, 22, 23, 24, 25, 26, 27, 28, 29, 30, 31, 32, 33, 34]), (34, 4, [6, 7, 8, 9, 10, 11, 12, 13, 14, 15, 16, 21, 22, 27, 28, 29, 30, 31, 32, 33, 34, 35, 36, 37, 38, 39, 40]), (35, 4, [2, 4, 16, 17, 18, 19, 20, 21, 22, 23, 24, 25, 26, 27, 28, 29, 32]), (44, 11, [33, 34, 35, 36, 37, 38, 39, 40]), (44, 7, [23, 24, 25, 26, 27, 28, 29, 30, 31]), (44, 3, [13, 14, 15, 16, 17, 18, 19, 20, 21, 22]), (45, 11, [11, 34, 35, 36, 37, 38, 39, 40, 41, 42, 43, 44, 45, 46, 47, 48, 49, 50, 51, 52, 53, 54, 55, 56, 57]), (47, 30, [107, 108, 109, 110, 114, 115, 116]), (47, 17, [4, 10, 11, 12, 13, 68, 69, 70, 71, 72, 73, 74, 75, 76, 77, 78, 79, 80, 81, 82, 83, 84, 85, 86, 87, 88, 89, 90, 91, 92, 93, 94, 97, 98, 104, 105, 106, 107, 108, 109, 110, 114, 115, 116, 117, 118, 119]), (47, 3, [4, 7, 8, 19, 20, 21, 22, 23, 24, 25, 26, 27, 28, 29, 30, 31, 32, 33, 34, 35, 36, 37, 38, 39, 40, 41, 42, 43, 44, 47, 48, 54]), (49, 5, [6, 19, 20, 21, 22, 23, 24, 25, 26, 27, 28, 29, 34, 35, 36, 37, 38, 39, 40, 41, 42]), (50, 2, [2, 4, 5, 6, 7, 8, 9, 10, 11, 12, 13, 14, 15, 16, 17, 18, 19]), (59, 6, [8, 9, 22, 23, 24, 25, 26, 27, 28, 29, 30, 31, 32, 33, 34, 35, 36, 37, 38, 39, 40, 41]), (60, 6, [4, 6, 20, 21, 22, 23, 24, 25, 26, 27, 28, 29, 30, 31, 32, 33]), (64, 7, [5, 24, 25, 26, 27, 28, 29, 30, 31, 32, 33, 34, 35, 36, 37, 38, 39, 40, 41, 42, 43]), (65, 3, [5, 6, 7, 8, 9, 10, 11, 12, 13, 14, 15, 16, 17, 20, 21, 22, 23, 24, 25, 26, 27]), (67, 1, [5, 6, 7, 8, 13, 14, 15]), (68, 1, [5, 6, 7, 8, 16, 17, 18, 19, 20, 21]), (69, 2, [3, 5, 6, 7, 8, 9, 10, 11, 12, 13, 14, 15, 16, 17, 18, 19]), (70, 1, [5, 6, 7, 8, 9, 10, 11, 12, 13, 14]), (71, 1, [5, 6, 7, 8, 9, 10, 11, 12, 13, 14, 15, 16, 17, 18, 19, 20]), (72, 1, [5, 6, 7, 8, 9, 10, 11, 12, 13, 14, 15, 16, 17, 18, 19, 20, 21]), (73, 1, [5, 6, 7, 8, 9, 10, 11, 12, 13, 14, 15, 16, 17, 18, 19, 20, 21, 22, 23, 24, 25, 26, 27, 28, 29, 30, 31, 32]), (74, 2, [5, 6, 7, 8]), (76, 15, [4, 11, 12, 13, 57, 58, 59, 60, 61, 62, 63, 64, 65, 66, 67, 68, 69, 70, 71, 72, 73, 74, 75, 76, 77, 78, 79, 80, 81, 82, 83, 84, 93, 94, 95, 96, 97, 98, 99, 100, 101, 102, 107, 108, 109, 110, 111, 112, 113, 114, 115, 116, 117, 118, 119, 120, 121, 127, 128, 132, 133, 134, 135, 136, 137, 138, 139, 140, 141, 142]), (77, 10, [2, 3, 8, 50, 51, 52, 53, 54, 55, 56, 57, 58, 59, 60, 61, 62, 63]), (80, 3, [4, 7, 8, 11, 12, 13, 14, 15, 16, 17, 18, 19, 20, 21, 22, 23, 24, 25, 26, 27, 28, 29, 30, 38, 39, 40, 41, 42, 43, 44, 45, 46, 47, 48, 49]), (84, 10, [25, 26, 27, 28, 29, 30, 31, 32, 33]), (88, 11, [4, 41, 42, 43, 44, 45, 46, 47, 48, 49, 50, 51, 52, 53, 54, 55, 56, 57, 58, 59, 60, 61, 62, 63, 64, 65, 66, 67, 68, 77, 78, 79, 80]), (88, 5, [18, 19, 20, 21, 22, 23, 24, 25, 26, 27, 28, 29]), (94, 38, [4, 5, 6, 176, 177, 178, 179, 180, 181, 182]), (94, 29, [140, 141, 142, 143, 144, 145, 146, 147, 148, 149, 150, 151, 152, 153, 154, 155, 156]), (94, 25, [4, 16, 121, 122, 123, 124, 125, 126, 127, 128, 129, 130, 131, 132, 139, 140, 141, 142, 143, 144, 145, 146, 147, 148, 149, 150, 151, 152, 153, 154, 155, 156, 157, 158, 159]), (94, 12, [48, 49, 50, 51, 52, 53, 54, 55, 56, 57, 58, 59, 60, 61, 62, 63, 64]), (94, 5, [4, 10, 11, 12, 23, 24, 25, 26, 27, 28, 29, 30, 31, 32, 33, 34, 35, 36, 37, 38, 39, 40, 41, 42, 43, 44, 45, 46, 47, 48, 49, 50, 51, 52, 53, 54, 55, 56, 57, 58, 59, 60, 61, 62, 63, 64, 65, 66, 67, 68, 69, 70, 71, 72, 73, 74, 75, 76, 77, 78, 79, 80, 81, 82, 83, 84, 85, 86, 87, 88, 89, 90, 91, 92, 93, 94, 95, 96, 97, 98]), (97, 8, [24, 25, 26, 27, 28, 29, 30, 31, 32, 33, 34, 35, 36]), (97, 3, [9, 10, 11, 12, 13, 14, 15, 16, 17, 18, 19, 20, 21]), (98, 36, [6, 7, 15, 16, 17, 102, 103, 104, 105, 106, 107, 108, 109, 111, 112, 113, 114, 115, 118, 119, 120, 121, 122, 123, 124, 125, 129, 130, 131, 132, 133, 134, 135, 136, 137, 138, 139, 140, 141, 142, 143, 144, 145, 146, 147, 148, 149, 150, 151, 152, 153, 154, 155, 159, 160, 161, 162, 163]), (105, 10, [2, 51, 52, 53, 54, 55, 56, 57, 58, 59, 60, 61, 66, 67, 83, 84, 85, 86, 87, 88, 89, 90, 91]), (110, 1, [5, 6, 7, 8, 9, 10, 11, 19, 20, 21, 22, 23, 24, 25, 26, 27, 28, 29, 30, 31, 32, 33, 34, 35, 36, 37, 38, 39, 40, 41, 42, 43, 44, 45, 46, 47, 48, 49, 50, 51, 52, 53, 54, 55, 56, 57, 58, 59, 60, 61, 62, 63, 64, 65, 66, 67, 68, 69, 70, 71, 72, 73, 74, 75, 76, 77, 78, 79, 80, 81, 82, 83, 84, 85, 86, 87, 88, 89, 90, 91, 92, 93, 94, 95]), (111, 11, [44, 45, 46, 47, 48, 49, 50, 51, 52, 53, 54, 55, 56, 57]), (111, 18, [18, 66, 67, 68, 69, 70, 71, 72, 73, 74, 75, 76, 77, 78, 79, 80, 81, 82])]
def mgL : List (Nat × Nat × Nat) := [(3, 13, 4), (4, 5, 4), (5, 6, 0), (6, 12, 85), (6, 9, 73), (6, 4, 37), (6, 1, 24), (7, 14, 91), (7, 11, 79), (7, 4, 36), (7, 1, 23), (8, 5, 30), (9, 7, 33), (10, 13, 81), (10, 6, 48), (10, 4, 24), (11, 12, 91), (11, 6, 53), (11, 4, 22), (12, 1, 14), (13, 1, 13), (16, 7, 34), (16, 4, 22), (16, 1, 10), (17, 1, 12), (18, 1, 15), (19, 1, 15), (21, 6, 51), (23, 11, 51), (23, 2, 19), (24, 4, 22), (26, 2, 33), (27, 7, 59), (27, 2, 22), (28, 4, 35), (28, 1, 19), (30, 1, 2), (31, 2, 2), (34, 6, 27), (35, 7, 32), (35, 1, 15), (39, 2, 29), (41, 5, 22), (42, 1, 6), (43, 1, 6), (46, 1, 24), (47, 30, 114), (47, 27, 104), (47, 11, 54), (49, 7, 34), (49, 1, 18), (52, 3, 21), (52, 1, 12), (53, 1, 4), (54, 1, 4), (56, 1, 2), (57, 1, 2), (58, 2, 19), (59, 2, 18), (63, 1, 10), (64, 12, 57), (64, 1, 13), (65, 6, 20), (67, 1, 13), (68, 1, 16), (76, 30, 132), (76, 25, 107), (76, 21, 93), (76, 8, 36), (76, 2, 16), (77, 4, 39), (77, 2, 30), (79, 24, 98), (79, 19, 75), (79, 14, 57), (80, 6, 38), (88, 16, 77), (88, 8, 39), (89, 19, 62), (89, 17, 52), (94, 27, 139), (94, 18, 98), (94, 34, 160), (98, 56, 169), (98, 52, 159), (98, 44, 121), (98, 42, 112), (98, 40, 106), (98, 23, 83), (98, 18, 64), (98, 15, 52), (98, 12, 40), (98, 6, 25), (103, 3, 10), (103, 1, 3), (105, 12, 83), (105, 6, 46), (105, 3, 18), (107, 2, 17), (111, 1, 28)]
def fzL : List (Nat × Nat × List Nat) := []
def inlL : List Nat := []
def kilL : List Nat := []
def okL : List Nat := [3, 4, 5, 6, 7, 8, 9, 10, 11, 12, 13, 14, 15, 16, 17, 18, 19, 20, 21, 22, 23, 24, 25, 26, 27, 28, 29, 30, 31, 32, 33, 34, 35, 36, 37, 38, 39, 40, 41, 42, 43, 44, 45, 46, 47, 48, 49, 50, 51, 52, 53, 54, 55, 56, 57, 58, 59, 60, 61, 62, 63, 64, 65, 66, 67, 68, 69, 70, 71, 72, 73, 74, 76, 77, 78, 79, 80, 81, 82, 83, 84, 85, 87, 88, 89, 90, 91, 92, 93, 94, 95, 97, 98, 99, 100, 101, 102, 103, 104, 105, 106, 107, 108, 109, 110, 111, 112, 113, 114, 115, 116, 117, 118]
def gl_date_names : List AV := [(.v (.string ⟨#[74, 97, 110]⟩)), (.v (.string ⟨#[70, 101, 98]⟩)), (.v (.string ⟨#[77, 97, 114]⟩)), (.v (.string ⟨#[65, 112, 114]⟩)), (.v (.string ⟨#[77, 97, 121]⟩)), (.v (.string ⟨#[74, 117, 110]⟩)), (.v (.string ⟨#[74, 117, 108]⟩)), (.v (.string ⟨#[65, 117, 103]⟩)), (.v (.string ⟨#[83, 101, 112]⟩)), (.v (.string ⟨#[79, 99, 116]⟩)), (.v (.string ⟨#[78, 111, 118]⟩)), (.v (.string ⟨#[68, 101, 99]⟩))]
def gl_date_ahead : List AV := [(.v (.int .i64 0)), (.v (.int .i64 31)), (.v (.int .i64 59)), (.v (.int .i64 90)), (.v (.int .i64 120)), (.v (.int .i64 151)), (.v (.int .i64 181)), (.v (.int .i64 212)), (.v (.int .i64 243)), (.v (.int .i64 273)), (.v (.int .i64 304)), (.v (.int .i64 334)), (.v (.int .i64 365))]
def gl_unicode_asciiFold : List AV := [(.v (.int .u16 0)), (.v (.int .u16 1)), (.v (.int .u16 2)), (.v (.int .u16 3)), (.v (.int .u16 4)), (.v (.int .u16 5)), (.v (.int .u16 6)), (.v (.int .u16 7)), (.v (.int .u16 8)), (.v (.int .u16 9)), (.v (.int .u16 10)), (.v (.int .u16 11)), (.v (.int .u16 12)), (.v (.int .u16 13)), (.v (.int .u16 14)), (.v (.int .u16 15)), (.v (.int .u16 16)), (.v (.int .u16 17)), (.v (.int .u16 18)), (.v (.int .u16 19)), (.v (.int .u16 20)), (.v (.int .u16 21)), (.v (.int .u16 22)), (.v (.int .u16 23)), (.v (.int .u16 24)), (.v (.int .u16 25)), (.v (.int .u16 26)), (.v (.int .u16 27)), (.v (.int .u16 28)), (.v (.int .u16 29)), (.v (.int .u16 30)), (.v (.int .u16 31)), (.v (.int .u16 32)), (.v (.int .u16 33)), (.v (.int .u16 34)), (.v (.int .u16 35)), (.v (.int .u16 36)), (.v (.int .u16 37)), (.v (.int .u16 38)), (.v (.int .u16 39)), (.v (.int .u16 40)), (.v (.int .u16 41)), (.v (.int .u16 42)), (.v (.int .u16 43)), (.v (.int .u16 44)), (.v (.int .u16 45)), (.v (.int .u16 46)), (.v (.int .u16 47)), (.v (.int .u16 48)), (.v (.int .u16 49)), (.v (.int .u16 50)), (.v (.int .u16 51)), (.v (.int .u16 52)), (.v (.int .u16 53)), (.v (.int .u16 54)), (.v (.int .u16 55)), (.v (.int .u16 56)), (.v (.int .u16 57)), (.v (.int .u16 58)), (.v (.int .u16 59)), (.v (.int .u16 60)), (.v (.int .u16 61)), (.v (.int .u16 62)), (.v (.int .u16 63)), (.v (.int .u16 64)), (.v (.int .u16 97)), (.v (.int .u16 98)), (.v (.int .u16 99)), (.v (.int .u16 100)), (.v (.int .u16 101)), (.v (.int .u16 102)), (.v (.int .u16 103)), (.v (.int .u16 104)), (.v (.int .u16 105)), (.v (.int .u16 106)), (.v (.int .u16 107)), (.v (.int .u16 108)), (.v (.int .u16 109)), (.v (.int .u16 110)), (.v (.int .u16 111)), (.v (.int .u16 112)), (.v (.int .u16 113)), (.v (.int .u16 114)), (.v (.int .u16 115)), (.v (.int .u16 116)), (.v (.int .u16 117)), (.v (.int .u16 118)), (.v (.int .u16 119)), (.v (.int .u16 120)), (.v (.int .u16 121)), (.v (.int .u16 122)), (.v (.int .u16 91)), (.v (.int .u16 92)), (.v (.int .u16 93)), (.v (.int .u16 94)), (.v (.int .u16 95)), (.v (.int .u16 96)), (.v (.int .u16 65)), (.v (.int .u16 66)), (.v (.int .u16 67)), (.v (.int .u16 68)), (.v (.int .u16 69)), (.v (.int .u16 70)), (.v (.int .u16 71)), (.v (.int .u16 72)), (.v (.int .u16 73)), (.v (.int .u16 74)), (.v (.int .u16 8490)), (.v (.int .u16 76)), (.v (.int .u16 77)), (.v (.int .u16 78)), (.v (.int .u16 79)), (.v (.int .u16 80)), (.v (.int .u16 81)), (.v (.int .u16 82)), (.v (.int .u16 383)), (.v (.int .u16 84)), (.v (.int .u16 85)), (.v (.int .u16 86)), (.v (.int .u16 87)), (.v (.int .u16 88)), (.v (.int .u16 89)), (.v (.int .u16 90)), (.v (.int .u16 123)), (.v (.int .u16 124)), (.v (.int .u16 125)), (.v (.int .u16 126)), (.v (.int .u16 127))]
def gl_unicode_caseOrbit : List AV := [(.lst 2 false [(.agg [(.v (.int .u16 75)), (.v (.int .u16 107))]), (.agg [(.v (.int .u16 83)), (.v (.int .u16 115))]), (.agg [(.v (.int .u16 107)), (.v (.int .u16 8490))]), (.agg [(.v (.int .u16 115)), (.v (.int .u16 383))]), (.agg [(.v (.int .u16 181)), (.v (.int .u16 924))]), (.agg [(.v (.int .u16 197)), (.v (.int .u16 229))]), (.agg [(.v (.int .u16 223)), (.v (.int .u16 7838))]), (.agg [(.v (.int .u16 229)), (.v (.int .u16 8491))]), (.agg [(.v (.int .u16 304)), (.v (.int .u16 304))]), (.agg [(.v (.int .u16 305)), (.v (.int .u16 305))]), (.agg [(.v (.int .u16 383)), (.v (.int .u16 83))]), (.agg [(.v (.int .u16 452)), (.v (.int .u16 453))]), (.agg [(.v (.int .u16 453)), (.v (.int .u16 454))]), (.agg [(.v (.int .u16 454)), (.v (.int .u16 452))]), (.agg [(.v (.int .u16 455)), (.v (.int .u16 456))]), (.agg [(.v (.int .u16 456)), (.v (.int .u16 457))]), (.agg [(.v (.int .u16 457)), (.v (.int .u16 455))]), (.agg [(.v (.int .u16 458)), (.v (.int .u16 459))]), (.agg [(.v (.int .u16 459)), (.v (.int .u16 460))]), (.agg [(.v (.int .u16 460)), (.v (.int .u16 458))]), (.agg [(.v (.int .u16 497)), (.v (.int .u16 498))]), (.agg [(.v (.int .u16 498)), (.v (.int .u16 499))]), (.agg [(.v (.int .u16 499)), (.v (.int .u16 497))]), (.agg [(.v (.int .u16 837)), (.v (.int .u16 921))]), (.agg [(.v (.int .u16 912)), (.v (.int .u16 8147))]), (.agg [(.v (.int .u16 914)), (.v (.int .u16 946))]), (.agg [(.v (.int .u16 917)), (.v (.int .u16 949))]), (.agg [(.v (.int .u16 920)), (.v (.int .u16 952))]), (.agg [(.v (.int .u16 921)), (.v (.int .u16 953))]), (.agg [(.v (.int .u16 922)), (.v (.int .u16 954))]), (.agg [(.v (.int .u16 924)), (.v (.int .u16 956))]), (.agg [(.v (.int .u16 928)), (.v (.int .u16 960))]), (.agg [(.v (.int .u16 929)), (.v (.int .u16 961))]), (.agg [(.v (.int .u16 931)), (.v (.int .u16 962))]), (.agg [(.v (.int .u16 934)), (.v (.int .u16 966))]), (.agg [(.v (.int .u16 937)), (.v (.int .u16 969))]), (.agg [(.v (.int .u16 944)), (.v (.int .u16 8163))]), (.agg [(.v (.int .u16 946)), (.v (.int .u16 976))]), (.agg [(.v (.int .u16 949)), (.v (.int .u16 1013))]), (.agg [(.v (.int .u16 952)), (.v (.int .u16 977))]), (.agg [(.v (.int .u16 953)), (.v (.int .u16 8126))]), (.agg [(.v (.int .u16 954)), (.v (.int .u16 1008))]), (.agg [(.v (.int .u16 956)), (.v (.int .u16 181))]), (.agg [(.v (.int .u16 960)), (.v (.int .u16 982))]), (.agg [(.v (.int .u16 961)), (.v (.int .u16 1009))]), (.agg [(.v (.int .u16 962)), (.v (.int .u16 963))]), (.agg [(.v (.int .u16 963)), (.v (.int .u16 931))]), (.agg [(.v (.int .u16 966)), (.v (.int .u16 981))]), (.agg [(.v (.int .u16 969)), (.v (.int .u16 8486))]), (.agg [(.v (.int .u16 976)), (.v (.int .u16 914))]), (.agg [(.v (.int .u16 977)), (.v (.int .u16 1012))]), (.agg [(.v (.int .u16 981)), (.v (.int .u16 934))]), (.agg [(.v (.int .u16 982)), (.v (.int .u16 928))]), (.agg [(.v (.int .u16 1008)), (.v (.int .u16 922))]), (.agg [(.v (.int .u16 1009)), (.v (.int .u16 929))]), (.agg [(.v (.int .u16 1012)), (.v (.int .u16 920))]), (.agg [(.v (.int .u16 1013)), (.v (.int .u16 917))]), (.agg [(.v (.int .u16 1042)), (.v (.int .u16 1074))]), (.agg [(.v (.int .u16 1044)), (.v (.int .u16 1076))]), (.agg [(.v (.int .u16 1054)), (.v (.int .u16 1086))]), (.agg [(.v (.int .u16 1057)), (.v (.int .u16 1089))]), (.agg [(.v (.int .u16 1058)), (.v (.int .u16 1090))]), (.agg [(.v (.int .u16 1066)), (.v (.int .u16 1098))]), (.agg [(.v (.int .u16 1074)), (.v (.int .u16 7296))]), (.agg [(.v (.int .u16 1076)), (.v (.int .u16 7297))]), (.agg [(.v (.int .u16 1086)), (.v (.int .u16 7298))]), (.agg [(.v (.int .u16 1089)), (.v (.int .u16 7299))]), (.agg [(.v (.int .u16 1090)), (.v (.int .u16 7300))]), (.agg [(.v (.int .u16 1098)), (.v (.int .u16 7302))]), (.agg [(.v (.int .u16 1122)), (.v (.int .u16 1123))]), (.agg [(.v (.int .u16 1123)), (.v (.int .u16 7303))]), (.agg [(.v (.int .u16 7296)), (.v (.int .u16 1042))]), (.agg [(.v (.int .u16 7297)), (.v (.int .u16 1044))]), (.agg [(.v (.int .u16 7298)), (.v (.int .u16 1054))]), (.agg [(.v (.int .u16 7299)), (.v (.int .u16 1057))]), (.agg [(.v (.int .u16 7300)), (.v (.int .u16 7301))]), (.agg [(.v (.int .u16 7301)), (.v (.int .u16 1058))]), (.agg [(.v (.int .u16 7302)), (.v (.int .u16 1066))]), (.agg [(.v (.int .u16 7303)), (.v (.int .u16 1122))]), (.agg [(.v (.int .u16 7304)), (.v (.int .u16 42570))]), (.agg [(.v (.int .u16 7776)), (.v (.int .u16 7777))]), (.agg [(.v (.int .u16 7777)), (.v (.int .u16 7835))]), (.agg [(.v (.int .u16 7835)), (.v (.int .u16 7776))]), (.agg [(.v (.int .u16 7838)), (.v (.int .u16 223))]), (.agg [(.v (.int .u16 8126)), (.v (.int .u16 837))]), (.agg [(.v (.int .u16 8147)), (.v (.int .u16 912))]), (.agg [(.v (.int .u16 8163)), (.v (.int .u16 944))]), (.agg [(.v (.int .u16 8486)), (.v (.int .u16 937))]), (.agg [(.v (.int .u16 8490)), (.v (.int .u16 75))]), (.agg [(.v (.int .u16 8491)), (.v (.int .u16 197))]), (.agg [(.v (.int .u16 42570)), (.v (.int .u16 42571))]), (.agg [(.v (.int .u16 42571)), (.v (.int .u16 7304))]), (.agg [(.v (.int .u16 64261)), (.v (.int .u16 64262))]), (.agg [(.v (.int .u16 64262)), (.v (.int .u16 64261))])])]
def gl_utf8_first : List AV := [(.v (.int .u8 240)), (.v (.int .u8 240)), (.v (.int .u8 240)), (.v (.int .u8 240)), (.v (.int .u8 240)), (.v (.int .u8 240)), (.v (.int .u8 240)), (.v (.int .u8 240)), (.v (.int .u8 240)), (.v (.int .u8 240)), (.v (.int .u8 240)), (.v (.int .u8 240)), (.v (.int .u8 240)), (.v (.int .u8 240)), (.v (.int .u8 240)), (.v (.int .u8 240)), (.v (.int .u8 240)), (.v (.int .u8 240)), (.v (.int .u8 240)), (.v (.int .u8 240)), (.v (.int .u8 240)), (.v (.int .u8 240)), (.v (.int .u8 240)), (.v (.int .u8 240)), (.v (.int .u8 240)), (.v (.int .u8 240)), (.v (.int .u8 240)), (.v (.int .u8 240)), (.v (.int .u8 240)), (.v (.int .u8 240)), (.v (.int .u8 240)), (.v (.int .u8 240)), (.v (.int .u8 240)), (.v (.int .u8 240)), (.v (.int .u8 240)), (.v (.int .u8 240)), (.v (.int .u8 240)), (.v (.int .u8 240)), (.v (.int .u8 240)), (.v (.int .u8 240)), (.v (.int .u8 240)), (.v (.int .u8 240)), (.v (.int .u8 240)), (.v (.int .u8 240)), (.v (.int .u8 240)), (.v (.int .u8 240)), (.v (.int .u8 240)), (.v (.int .u8 240)), (.v (.int .u8 240)), (.v (.int .u8 240)), (.v (.int .u8 240)), (.v (.int .u8 240)), (.v (.int .u8 240)), (.v (.int .u8 240)), (.v (.int .u8 240)), (.v (.int .u8 240)), (.v (.int .u8 240)), (.v (.int .u8 240)), (.v (.int .u8 240)), (.v (.int .u8 240)), (.v (.int .u8 240)), (.v (.int .u8 240)), (.v (.int .u8 240)), (.v (.int .u8 240)), (.v (.int .u8 240)), (.v (.int .u8 240)), (.v (.int .u8 240)), (.v (.int .u8 240)), (.v (.int .u8 240)), (.v (.int .u8 240)), (.v (.int .u8 240)), (.v (.int .u8 240)), (.v (.int .u8 240)), (.v (.int .u8 240)), (.v (.int .u8 240)), (.v (.int .u8 240)), (.v (.int .u8 240)), (.v (.int .u8 240)), (.v (.int .u8 240)), (.v (.int .u8 240)), (.v (.int .u8 240)), (.v (.int .u8 240)), (.v (.int .u8 240)), (.v (.int .u8 240)), (.v (.int .u8 240)), (.v (.int .u8 240)), (.v (.int .u8 240)), (.v (.int .u8 240)), (.v (.int .u8 240)), (.v (.int .u8 240)), (.v (.int .u8 240)), (.v (.int .u8 240)), (.v (.int .u8 240)), (.v (.int .u8 240)), (.v (.int .u8 240)), (.v (.int .u8 240)), (.v (.int .u8 240)), (.v (.int .u8 240)), (.v (.int .u8 240)), (.v (.int .u8 240)), (.v (.int .u8 240)), (.v (.int .u8 240)), (.v (.int .u8 240)), (.v (.int .u8 240)), (.v (.int .u8 240)), (.v (.int .u8 240)), (.v (.int .u8 240)), (.v (.int .u8 240)), (.v (.int .u8 240)), (.v (.int .u8 240)), (.v (.int .u8 240)), (.v (.int .u8 240)), (.v (.int .u8 240)), (.v (.int .u8 240)), (.v (.int .u8 240)), (.v (.int .u8 240)), (.v (.int .u8 240)), (.v (.int .u8 240)), (.v (.int .u8 240)), (.v (.int .u8 240)), (.v (.int .u8 240)), (.v (.int .u8 240)), (.v (.int .u8 240)), (.v (.int .u8 240)), (.v (.int .u8 240)), (.v (.int .u8 240)), (.v (.int .u8 240)), (.v (.int .u8 240)), (.v (.int .u8 241)), (.v (.int .u8 241)), (.v (.int .u8 241)), (.v (.int .u8 241)), (.v (.int .u8 241)), (.v (.int .u8 241)), (.v (.int .u8 241)), (.v (.int .u8 241)), (.v (.int .u8 241)), (.v (.int .u8 241)), (.v (.int .u8 241)), (.v (.int .u8 241)), (.v (.int .u8 241)), (.v (.int .u8 241)), (.v (.int .u8 241)), (.v (.int .u8 241)), (.v (.int .u8 241)), (.v (.int .u8 241)), (.v (.int .u8 241)), (.v (.int .u8 241)), (.v (.int .u8 241)), (.v (.int .u8 241)), (.v (.int .u8 241)), (.v (.int .u8 241)), (.v (.int .u8 241)), (.v (.int .u8 241)), (.v (.int .u8 241)), (.v (.int .u8 241)), (.v (.int .u8 241)), (.v (.int .u8 241)), (.v (.int .u8 241)), (.v (.int .u8 241)), (.v (.int .u8 241)), (.v (.int .u8 241)), (.v (.int .u8 241)), (.v (.int .u8 241)), (.v (.int .u8 241)), (.v (.int .u8 241)), (.v (.int .u8 241)), (.v (.int .u8 241)), (.v (.int .u8 241)), (.v (.int .u8 241)), (.v (.int .u8 241)), (.v (.int .u8 241)), (.v (.int .u8 241)), (.v (.int .u8 241)), (.v (.int .u8 241)), (.v (.int .u8 241)), (.v (.int .u8 241)), (.v (.int .u8 241)), (.v (.int .u8 241)), (.v (.int .u8 241)), (.v (.int .u8 241)), (.v (.int .u8 241)), (.v (.int .u8 241)), (.v (.int .u8 241)), (.v (.int .u8 241)), (.v (.int .u8 241)), (.v (.int .u8 241)), (.v (.int .u8 241)), (.v (.int .u8 241)), (.v (.int .u8 241)), (.v (.int .u8 241)), (.v (.int .u8 241)), (.v (.int .u8 241)), (.v (.int .u8 241)), (.v (.int .u8 2)), (.v (.int .u8 2)), (.v (.int .u8 2)), (.v (.int .u8 2)), (.v (.int .u8 2)), (.v (.int .u8 2)), (.v (.int .u8 2)), (.v (.int .u8 2)), (.v (.int .u8 2)), (.v (.int .u8 2)), (.v (.int .u8 2)), (.v (.int .u8 2)), (.v (.int .u8 2)), (.v (.int .u8 2)), (.v (.int .u8 2)), (.v (.int .u8 2)), (.v (.int .u8 2)), (.v (.int .u8 2)), (.v (.int .u8 2)), (.v (.int .u8 2)), (.v (.int .u8 2)), (.v (.int .u8 2)), (.v (.int .u8 2)), (.v (.int .u8 2)), (.v (.int .u8 2)), (.v (.int .u8 2)), (.v (.int .u8 2)), (.v (.int .u8 2)), (.v (.int .u8 2)), (.v (.int .u8 2)), (.v (.int .u8 19)), (.v (.int .u8 3)), (.v (.int .u8 3)), (.v (.int .u8 3)), (.v (.int .u8 3)), (.v (.int .u8 3)), (.v (.int .u8 3)), (.v (.int .u8 3)), (.v (.int .u8 3)), (.v (.int .u8 3)), (.v (.int .u8 3)), (.v (.int .u8 3)), (.v (.int .u8 3)), (.v (.int .u8 35)), (.v (.int .u8 3)), (.v (.int .u8 3)), (.v (.int .u8 52)), (.v (.int .u8 4)), (.v (.int .u8 4)), (.v (.int .u8 4)), (.v (.int .u8 68)), (.v (.int .u8 241)), (.v (.int .u8 241)), (.v (.int .u8 241)), (.v (.int .u8 241)), (.v (.int .u8 241)), (.v (.int .u8 241)), (.v (.int .u8 241)), (.v (.int .u8 241)), (.v (.int .u8 241)), (.v (.int .u8 241)), (.v (.int .u8 241))]
def gl_utf8_acceptRanges : List AV := [(.v (.int .u8 128)), (.v (.int .u8 191)), (.v (.int .u8 160)), (.v (.int .u8 191)), (.v (.int .u8 128)), (.v (.int .u8 159)), (.v (.int .u8 144)), (.v (.int .u8 191)), (.v (.int .u8 128)), (.v (.int .u8 143)), (.v (.int .u8 0)), (.v (.int .u8 0)), (.v (.int .u8 0)), (.v (.int .u8 0)), (.v (.int .u8 0)), (.v (.int .u8 0)), (.v (.int .u8 0)), (.v (.int .u8 0)), (.v (.int .u8 0)), (.v (.int .u8 0)), (.v (.int .u8 0)), (.v (.int .u8 0)), (.v (.int .u8 0)), (.v (.int .u8 0)), (.v (.int .u8 0)), (.v (.int .u8 0)), (.v (.int .u8 0)), (.v (.int .u8 0)), (.v (.int .u8 0)), (.v (.int .u8 0)), (.v (.int .u8 0)), (.v (.int .u8 0))]
abbrev f_law07_DateTexts : FuncId := 3
abbrev f_law07_DateDays : FuncId := 4
abbrev f_law07_alive : FuncId := 5
abbrev f_date_Parse : FuncId := 6
abbrev f_ref07_Parse : FuncId := 7
abbrev f_date_Short : FuncId := 8
abbrev f_ref07_Short : FuncId := 9
abbrev f_date_Mail : FuncId := 10
abbrev f_ref07_Mail : FuncId := 11
abbrev f_date_Print : FuncId := 12
abbrev f_ref07_Print : FuncId := 13
abbrev f_date_Day : FuncId := 14
abbrev f_ref07_Day : FuncId := 15
abbrev f_date_Civil : FuncId := 16
abbrev f_ref07_Civil : FuncId := 17
abbrev f_date_Number : FuncId := 18
abbrev f_ref07_Number : FuncId := 19
abbrev f_strings_Split : FuncId := 20
abbrev f_date_calendar : FuncId := 21
abbrev f_strings_TrimPrefix : FuncId := 22
abbrev f_date_clock : FuncId := 23
abbrev f_date_zone : FuncId := 24
abbrev f_ref07_split : FuncId := 25
abbrev f_ref07_ymd : FuncId := 26
abbrev f_ref07_clock : FuncId := 27
abbrev f_ref07_zone : FuncId := 28
abbrev f_strings_FieldsFunc : FuncId := 29
abbrev f_date_Mail_1 : FuncId := 30
abbrev f_date_week : FuncId := 31
abbrev f_strings_HasPrefix : FuncId := 32
abbrev f_strings_HasSuffix : FuncId := 33
abbrev f_ref07_words : FuncId := 34
abbrev f_ref07_week : FuncId := 35
abbrev f_date_two : FuncId := 36
abbrev f_ref07_digits : FuncId := 37
abbrev f_ref07_months : FuncId := 38
abbrev f_date_count : FuncId := 39
abbrev f_ref07_length : FuncId := 40
abbrev f_ref07_days : FuncId := 41
abbrev f_date_there : FuncId := 42
abbrev f_ref07_there : FuncId := 43
abbrev f_ref07_number : FuncId := 44
abbrev f_strings_genSplit : FuncId := 45
abbrev f_date_number : FuncId := 46
abbrev f_strings_EqualFold : FuncId := 47
abbrev f_i_stringslite_TrimPrefix : FuncId := 48
abbrev f_ref07_num : FuncId := 49
abbrev f_ref07_month : FuncId := 50
abbrev f_strings_CutSuffix : FuncId := 51
abbrev f_strings_Trim : FuncId := 52
abbrev f_i_stringslite_HasPrefix : FuncId := 53
abbrev f_i_stringslite_HasSuffix : FuncId := 54
abbrev f_date_leaps : FuncId := 55
abbrev f_date_leap : FuncId := 56
abbrev f_ref07_leap : FuncId := 57
abbrev f_date_days : FuncId := 58
abbrev f_strings_explode : FuncId := 59
abbrev f_strings_Count : FuncId := 60
abbrev f_strings_Index : FuncId := 61
abbrev f_strconv_Atoi : FuncId := 62
abbrev f_utf8_DecodeRuneInString : FuncId := 63
abbrev f_unicode_SimpleFold : FuncId := 64
abbrev f_ref07_small : FuncId := 65
abbrev f_i_stringslite_CutSuffix : FuncId := 66
abbrev f_strings_trimLeftByte : FuncId := 67
abbrev f_strings_trimRightByte : FuncId := 68
abbrev f_strings_makeASCIISet : FuncId := 69
abbrev f_strings_trimLeftASCII : FuncId := 70
abbrev f_strings_trimRightASCII : FuncId := 71
abbrev f_strings_trimLeftUnicode : FuncId := 72
abbrev f_strings_trimRightUnicode : FuncId := 73
abbrev f_utf8_RuneCountInString : FuncId := 74
abbrev f_i_bytealg_CountString : FuncId := 75
abbrev f_i_stringslite_Index : FuncId := 76
abbrev f_i_strconv_Atoi : FuncId := 77
abbrev f_strconv_toError : FuncId := 78
abbrev f_utf8_decodeRuneInStringSlow : FuncId := 79
abbrev f_unicode_lookupCaseRange : FuncId := 80
abbrev f_unicode_convertCase : FuncId := 81
abbrev f_strings_asciiSet_contains : FuncId := 82
abbrev f_strings_ContainsRune : FuncId := 83
abbrev f_utf8_DecodeLastRuneInString : FuncId := 84
abbrev f_i_stringslite_IndexByte : FuncId := 85
abbrev f_i_bytealg_IndexString : FuncId := 86
abbrev f_i_bytealg_Cutover : FuncId := 87
abbrev f_i_bytealg_IndexRabinKarp_string : FuncId := 88
abbrev f_i_strconv_ParseInt : FuncId := 89
abbrev f_strconv_syntaxError : FuncId := 90
abbrev f_strconv_rangeError : FuncId := 91
abbrev f_strconv_baseError : FuncId := 92
abbrev f_strconv_bitSizeError : FuncId := 93
abbrev f_strings_IndexRune : FuncId := 94
abbrev f_utf8_RuneStart : FuncId := 95
abbrev f_i_bytealg_IndexByteString : FuncId := 96
abbrev f_i_bytealg_hashStr_string : FuncId := 97
abbrev f_i_strconv_ParseUint : FuncId := 98
abbrev f_i_stringslite_Clone : FuncId := 99
abbrev f_errors_New : FuncId := 100
abbrev f_strconv_Itoa : FuncId := 101
abbrev f_strings_IndexByte : FuncId := 102
abbrev f_utf8_ValidRune : FuncId := 103
abbrev f_i_strconv_lower : FuncId := 104
abbrev f_i_strconv_underscoreOK : FuncId := 105
abbrev f_i_strconv_Itoa : FuncId := 106
abbrev f_i_strconv_FormatInt : FuncId := 107
abbrev f_i_strconv_small : FuncId := 108
abbrev f_i_strconv_numDigits : FuncId := 109
abbrev f_i_strconv_formatBase10 : FuncId := 110
abbrev f_i_strconv_formatBits : FuncId := 111
abbrev f_i_strconv_log10Pow2 : FuncId := 112
abbrev f_bits_Len64 : FuncId := 113
abbrev f_i_strconv_bool2_int : FuncId := 114
abbrev f_i_strconv_isPowerOfTwo : FuncId := 115
abbrev f_bits_TrailingZeros : FuncId := 116
abbrev f_bits_TrailingZeros32 : FuncId := 117
abbrev f_bits_TrailingZeros64 : FuncId := 118
abbrev f_runtime_boundsError_Error : FuncId := 119
abbrev f_runtime_boundsError_RuntimeError : FuncId := 120
abbrev f_runtime_errorString_Error : FuncId := 121
abbrev f_runtime_errorString_RuntimeError : FuncId := 122
abbrev f_runtime_plainError_Error : FuncId := 123
abbrev f_runtime_plainError_RuntimeError : FuncId := 124
abbrev f_runtime_errorAddressString_Error : FuncId := 125
abbrev f_runtime_errorAddressString_RuntimeError : FuncId := 126
abbrev f_runtime_TypeAssertionError_Error : FuncId := 127
abbrev f_runtime_TypeAssertionError_RuntimeError : FuncId := 128
abbrev f_runtime_PanicNilError_Error : FuncId := 129
abbrev f_runtime_PanicNilError_RuntimeError : FuncId := 130
abbrev f_i_abi_Type_Align : FuncId := 131
abbrev f_i_runtime_maps_unhashableTypeError_Error : FuncId := 132
abbrev f_i_runtime_maps_unhashableTypeError_RuntimeError : FuncId := 133
abbrev f_api_Errno_Error : FuncId := 134
abbrev f_i_strconv_Error_Error : FuncId := 135
abbrev f_strconv_NumError_Error : FuncId := 136
abbrev f_errors_errorString_Error : FuncId := 137
abbrev f_i_abi_Kind_String : FuncId := 138
abbrev f_gosem_cut_vars : FuncId := 153
def gL : List (Nat × AV) := [(0, (.agg gl_date_names)), (1, (.agg gl_date_ahead)), (8, .junk), (9, .junk), (2, (.agg gl_unicode_asciiFold)), (3, (.agg gl_unicode_caseOrbit)), (6, (.agg gl_utf8_first)), (7, (.agg gl_utf8_acceptRanges))]
def gX (g : Nat) : Option AV := match gL.find? fun p => Nat.beq p.1 g with | some p => some p.2 | none => none
noncomputable def X : Ctx := { P := Tryz.prog, G := gX, own := fun f d => ownL.any fun p => Nat.beq p.1 f && Nat.beq p.2 d, clr := fun f k => match clrL.find? fun p => Nat.beq p.1 f && Nat.beq p.2.1 k with | some p => p.2.2 | none => [], fz := fun f k => match fzL.find? fun p => Nat.beq p.1 f && Nat.beq p.2.1 k with | some p => p.2.2 | none => [], mg := fun f k => match mgL.find? fun p => Nat.beq p.1 f && Nat.beq p.2.1 k with | some p => some p.2.2 | none => none, kil := fun f => kilL.any fun g => Nat.beq g f, inl := fun f => inlL.any fun g => Nat.beq g f, ok := fun f => okL.any fun g => Nat.beq g f }
def ovL : List (Nat × (List AV → Option AV)) := [(75, xCountString), (96, xIndexByteString)]
def ovr (f : FuncId) : Option (List AV → Option AV) := match ovL.find? fun p => Nat.beq p.1 f with | some p => some p.2 | none => none

theorem soundX : Sound X := sound_of okL (by kernel_rfl) (by kernel_rfl) (fun g h => h)
set_option maxRecDepth 100000 in
theorem ovr_ok (g : FuncId) (f : List AV → Option AV) (h : ovr g = some f) (xs : List AV) (v : AV) (hv : f xs = some v) : PureCall X g xs v := by
  unfold ovr at h
  split at h
  · rename_i p hp
    have hm := List.mem_of_find?_eq_some hp
    have hg := List.find?_some hp
    cases h
    obtain rfl := Nat.eq_of_beq_eq_true hg
    simp only [ovL, List.mem_cons, List.not_mem_nil, or_false] at hm
    rcases hm with rfl | rfl
    · exact xCountString_ok (fn := Tryz.f75) Tryz.func75 (by kernel_rfl) (by kernel_rfl) (by kernel_rfl) (by kernel_rfl) xs v hv
    · exact xIndexByteString_ok (fn := Tryz.f96) Tryz.func96 (by kernel_rfl) (by kernel_rfl) (by kernel_rfl) (by kernel_rfl) xs v hv
  · cases h
theorem ok_nil : KOk X (tabK []) := tab_ok [] tab_nil
end Go.Proofs.YtmiffikcnkgcpaaGreatDoor
