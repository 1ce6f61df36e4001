/- The code of the functions, for the ideal machine: printed by a program of this session (wip/tools/gen.py) off the loaded program. -/
import Derived.Test.YtojbkocmobkddaaGreatDoorImA1
set_option maxRecDepth 100000
namespace Go.Im
/- agonic/agoniclaw14.LogbookNone -/
def c8 : IFunc := ⟨3, [.tmp 6],
(.seq (.reg [⟨some 6, .p (.mv (.const (.bool false))), none⟩])
 (.seqK [0, 1, 2] (.seq (.reg [⟨some 23, .p (.mv (.tmp 0)), none⟩,
  ⟨some 24, .p (.lenV false (.tmp 23)), none⟩,
  ⟨some 25, .p (.bin .gtr (.tmp 24) (.const (.int .i64 20000))), none⟩])
 (.cond (.tmp 25)
 (.seq (.reg [⟨some 26, .w (.call (.func 13) []), none⟩,
  ⟨some 6, .p (.mv (.tmp 26)), none⟩])
 .ret)
 .skip))
 (.seq (.reg [⟨some 7, .p (.mv (.const (.pointer none))), none⟩])
 (.seq (.reg [⟨some 27, .p (.build [.pointer none, .slice none 0 0, .slice none 0 0] []), none⟩,
  ⟨some 28, .a (.box 68 (.tmp 27)), none⟩,
  ⟨some 8, .p (.mv (.tmp 28)), none⟩])
 (.seqK [] (.seq (.reg [⟨some 9, .p (.mv (.const (.int .i64 0))), none⟩])
 (.block 0 (.loop [0, 1, 2, 7, 8, 9] (.seqK [0, 1, 2, 7, 8, 9] (.seq (.reg [⟨some 29, .p (.mv (.tmp 9)), none⟩,
  ⟨some 30, .p (.bin .lss (.tmp 29) (.const (.int .i64 2))), none⟩])
 (.cond (.tmp 30)
 .skip
 (.exit 0)))
 (.seqK [0, 1, 2, 7, 8, 9] (.block 1 (.seq (.reg [⟨some 33, .p (.mv (.tmp 7)), none⟩,
  ⟨some 10, .p (.mv (.tmp 33)), none⟩])
 (.seqK [0, 1, 2, 7, 8, 9, 10] (.seq (.reg [⟨some 34, .p (.mv (.tmp 9)), none⟩,
  ⟨some 35, .p (.bin .eql (.tmp 34) (.const (.int .i64 1))), none⟩])
 (.cond (.tmp 35)
 (.reg [⟨some 36, .p (.mv (.tmp 8)), none⟩,
  ⟨some 10, .p (.mv (.tmp 36)), none⟩])
 .skip))
 (.seq (.reg [⟨some 38, .p (.mv (.tmp 10)), none⟩,
  ⟨some 39, .p (.mv (.tmp 0)), none⟩,
  ⟨some 40, .w (.call (.func 28) [(.tmp 38), (.tmp 39)]), none⟩,
  ⟨some 37, .p (.mv (.tmp 40)), none⟩,
  ⟨some 41, .p (.ext (.tmp 37) 0), none⟩,
  ⟨some 42, .p (.ext (.tmp 37) 1), none⟩,
  ⟨some 11, .p (.mv (.tmp 41)), none⟩,
  ⟨some 12, .p (.mv (.tmp 42)), none⟩])
 (.seq (.reg [⟨some 44, .p (.mv (.tmp 10)), none⟩,
  ⟨some 45, .p (.mv (.tmp 0)), none⟩,
  ⟨some 46, .w (.call (.func 22) [(.tmp 44), (.tmp 45)]), none⟩,
  ⟨some 43, .p (.mv (.tmp 46)), none⟩,
  ⟨some 47, .p (.ext (.tmp 43) 0), none⟩,
  ⟨some 48, .p (.ext (.tmp 43) 1), none⟩,
  ⟨some 13, .a (.alloc 33 [.int .i64 0, .int .i64 0, .int .i64 0, .int .i64 0]), none⟩,
  ⟨none, .w (.st 4 (.tmp 13) (.tmp 47)), none⟩,
  ⟨some 14, .p (.mv (.tmp 48)), none⟩])
 (.seq (.reg [⟨some 50, .p (.mv (.tmp 10)), none⟩,
  ⟨some 51, .p (.mv (.tmp 1)), none⟩,
  ⟨some 52, .p (.mv (.tmp 2)), none⟩,
  ⟨some 53, .w (.call (.func 18) [(.tmp 50), (.tmp 51), (.tmp 52)]), none⟩,
  ⟨some 49, .p (.mv (.tmp 53)), none⟩,
  ⟨some 54, .p (.ext (.tmp 49) 0), none⟩,
  ⟨some 55, .p (.ext (.tmp 49) 1), none⟩,
  ⟨some 15, .p (.mv (.tmp 54)), none⟩,
  ⟨some 16, .p (.mv (.tmp 55)), none⟩])
 (.seq (.reg [⟨some 57, .p (.mv (.tmp 10)), none⟩,
  ⟨some 58, .p (.mv (.tmp 1)), none⟩,
  ⟨some 59, .w (.call (.func 20) [(.tmp 57), (.tmp 58)]), none⟩,
  ⟨some 56, .p (.mv (.tmp 59)), none⟩,
  ⟨some 60, .p (.ext (.tmp 56) 0), none⟩,
  ⟨some 61, .p (.ext (.tmp 56) 1), none⟩,
  ⟨some 17, .p (.mv (.tmp 60)), none⟩,
  ⟨some 18, .p (.mv (.tmp 61)), none⟩])
 (.seq (.reg [⟨some 63, .p (.mv (.tmp 10)), none⟩,
  ⟨some 64, .p (.mv (.tmp 0)), none⟩,
  ⟨some 65, .w (.call (.func 26) [(.tmp 63), (.tmp 64)]), none⟩,
  ⟨some 62, .p (.mv (.tmp 65)), none⟩,
  ⟨some 66, .p (.ext (.tmp 62) 0), none⟩,
  ⟨some 67, .p (.ext (.tmp 62) 1), none⟩,
  ⟨some 19, .p (.mv (.tmp 66)), none⟩,
  ⟨some 20, .p (.mv (.tmp 67)), none⟩])
 (.seq (.reg [⟨some 69, .p (.mv (.tmp 10)), none⟩,
  ⟨some 70, .p (.mv (.tmp 0)), none⟩,
  ⟨some 71, .w (.call (.func 24) [(.tmp 69), (.tmp 70)]), none⟩,
  ⟨some 68, .p (.mv (.tmp 71)), none⟩,
  ⟨some 72, .p (.ext (.tmp 68) 0), none⟩,
  ⟨some 73, .p (.ext (.tmp 68) 1), none⟩,
  ⟨some 21, .p (.mv (.tmp 72)), none⟩,
  ⟨some 22, .p (.mv (.tmp 73)), none⟩])
 (.seq (.reg [⟨some 74, .p (.mv (.tmp 10)), none⟩,
  ⟨some 75, .p (.mv (.tmp 0)), none⟩,
  ⟨some 76, .w (.call (.func 16) [(.tmp 74), (.tmp 75)]), none⟩,
  ⟨some 77, .p (.bin .neq (.tmp 76) (.const (.int .i64 11))), none⟩,
  ⟨some 78, .p (.mv (.tmp 77)), none⟩,
  ⟨some 79, .p (.mv (.tmp 12)), some (78, false)⟩,
  ⟨some 80, .p (.bin .neq (.tmp 79) (.const (.int .i64 11))), some (78, false)⟩,
  ⟨some 81, .p (.pick (.tmp 78) (.const (.bool true)) (.tmp 80)), none⟩,
  ⟨some 82, .p (.mv (.tmp 81)), none⟩,
  ⟨some 83, .p (.mv (.tmp 14)), some (82, false)⟩,
  ⟨some 84, .p (.bin .neq (.tmp 83) (.const (.int .i64 11))), some (82, false)⟩,
  ⟨some 85, .p (.pick (.tmp 82) (.const (.bool true)) (.tmp 84)), none⟩,
  ⟨some 86, .p (.mv (.tmp 85)), none⟩,
  ⟨some 87, .p (.mv (.tmp 16)), some (86, false)⟩,
  ⟨some 88, .p (.bin .neq (.tmp 87) (.const (.int .i64 11))), some (86, false)⟩,
  ⟨some 89, .p (.pick (.tmp 86) (.const (.bool true)) (.tmp 88)), none⟩,
  ⟨some 90, .p (.mv (.tmp 89)), none⟩,
  ⟨some 91, .p (.mv (.tmp 18)), some (90, false)⟩,
  ⟨some 92, .p (.bin .neq (.tmp 91) (.const (.int .i64 11))), some (90, false)⟩,
  ⟨some 93, .p (.pick (.tmp 90) (.const (.bool true)) (.tmp 92)), none⟩,
  ⟨some 94, .p (.mv (.tmp 93)), none⟩,
  ⟨some 95, .p (.mv (.tmp 20)), some (94, false)⟩,
  ⟨some 96, .p (.bin .neq (.tmp 95) (.const (.int .i64 11))), some (94, false)⟩,
  ⟨some 97, .p (.pick (.tmp 94) (.const (.bool true)) (.tmp 96)), none⟩,
  ⟨some 98, .p (.mv (.tmp 97)), none⟩,
  ⟨some 99, .p (.mv (.tmp 22)), some (98, false)⟩,
  ⟨some 100, .p (.bin .neq (.tmp 99) (.const (.int .i64 11))), some (98, false)⟩,
  ⟨some 101, .p (.pick (.tmp 98) (.const (.bool true)) (.tmp 100)), none⟩,
  ⟨some 102, .p (.mv (.tmp 101)), none⟩,
  ⟨some 103, .p (.mv (.tmp 11)), some (102, false)⟩,
  ⟨some 104, .p (.bin .neq (.tmp 103) (.const (.int .i64 0))), some (102, false)⟩,
  ⟨some 105, .p (.pick (.tmp 102) (.const (.bool true)) (.tmp 104)), none⟩,
  ⟨some 106, .p (.mv (.tmp 105)), none⟩,
  ⟨some 107, .r (.ldN 4 (.tmp 13)), some (106, false)⟩,
  ⟨some 108, .p (.build [.int .i64 0, .int .i64 0, .int .i64 0, .int .i64 0] []), some (106, false)⟩,
  ⟨some 109, .p (.eqs (.a 4) 33 true (.tmp 107) (.tmp 108)), some (106, false)⟩,
  ⟨some 110, .p (.pick (.tmp 106) (.const (.bool true)) (.tmp 109)), none⟩,
  ⟨some 111, .p (.mv (.tmp 110)), none⟩,
  ⟨some 112, .p (.mv (.tmp 15)), some (111, false)⟩,
  ⟨some 113, .p (.bin .neq (.tmp 112) (.const (.string ⟨#[]⟩))), some (111, false)⟩,
  ⟨some 114, .p (.pick (.tmp 111) (.const (.bool true)) (.tmp 113)), none⟩,
  ⟨some 115, .p (.mv (.tmp 114)), none⟩,
  ⟨some 116, .p (.mv (.tmp 17)), some (115, false)⟩,
  ⟨some 117, .p (.bin .neq (.tmp 116) (.const (.string ⟨#[]⟩))), some (115, false)⟩,
  ⟨some 118, .p (.pick (.tmp 115) (.const (.bool true)) (.tmp 117)), none⟩,
  ⟨some 119, .p (.mv (.tmp 118)), none⟩,
  ⟨some 120, .p (.mv (.tmp 19)), some (119, false)⟩,
  ⟨some 121, .p (.lenV true (.tmp 120)), some (119, false)⟩,
  ⟨some 122, .p (.bin .gtr (.tmp 121) (.const (.int .i64 0))), some (119, false)⟩,
  ⟨some 123, .p (.pick (.tmp 119) (.const (.bool true)) (.tmp 122)), none⟩,
  ⟨some 124, .p (.mv (.tmp 123)), none⟩,
  ⟨some 125, .p (.mv (.tmp 21)), some (124, false)⟩,
  ⟨some 126, .p (.bin .neq (.tmp 125) (.const (.string ⟨#[]⟩))), some (124, false)⟩,
  ⟨some 127, .p (.pick (.tmp 124) (.const (.bool true)) (.tmp 126)), none⟩,
  ⟨some 128, .p (.mv (.tmp 127)), none⟩,
  ⟨some 129, .p (.mv (.tmp 10)), some (128, false)⟩,
  ⟨some 130, .w (.call (.func 41) [(.tmp 129)]), some (128, false)⟩,
  ⟨some 131, .p (.lenV true (.tmp 130)), some (128, false)⟩,
  ⟨some 132, .p (.mv (.tmp 10)), some (128, false)⟩,
  ⟨some 133, .w (.call (.func 33) [(.tmp 132)]), some (128, false)⟩,
  ⟨some 134, .p (.lenV true (.tmp 133)), some (128, false)⟩,
  ⟨some 135, .p (.bin .add (.tmp 131) (.tmp 134)), some (128, false)⟩,
  ⟨some 136, .p (.mv (.tmp 10)), some (128, false)⟩,
  ⟨some 137, .w (.call (.func 29) [(.tmp 136)]), some (128, false)⟩,
  ⟨some 138, .p (.lenV true (.tmp 137)), some (128, false)⟩,
  ⟨some 139, .p (.bin .add (.tmp 135) (.tmp 138)), some (128, false)⟩,
  ⟨some 140, .p (.mv (.tmp 10)), some (128, false)⟩,
  ⟨some 141, .w (.call (.func 30) [(.tmp 140)]), some (128, false)⟩,
  ⟨some 142, .p (.bin .add (.tmp 139) (.tmp 141)), some (128, false)⟩,
  ⟨some 143, .p (.bin .neq (.tmp 142) (.const (.int .i64 0))), some (128, false)⟩,
  ⟨some 144, .p (.pick (.tmp 128) (.const (.bool true)) (.tmp 143)), none⟩,
  ⟨some 145, .p (.mv (.tmp 144)), none⟩,
  ⟨some 146, .p (.mv (.tmp 10)), some (145, false)⟩,
  ⟨some 147, .w (.call (.func 42) [(.tmp 146)]), some (145, false)⟩,
  ⟨some 148, .p (.bin .neq (.tmp 147) (.const (.string ⟨#[]⟩))), some (145, false)⟩,
  ⟨some 149, .p (.pick (.tmp 145) (.const (.bool true)) (.tmp 148)), none⟩])
 (.cond (.tmp 149)
 (.seq (.reg [⟨some 6, .p (.mv (.const (.bool false))), none⟩])
 .ret)
 .skip)))))))))))
 (.reg [⟨some 31, .p (.mv (.tmp 9)), none⟩,
  ⟨some 32, .p (.bin .add (.tmp 31) (.const (.int .i64 1))), none⟩,
  ⟨some 9, .p (.mv (.tmp 32)), none⟩]))))))
 (.seq (.reg [⟨some 150, .w (.call (.func 13) []), none⟩,
  ⟨some 6, .p (.mv (.tmp 150)), none⟩])
 .ret))))))⟩
/- agonic/agoniclaw14.works -/
def c13 : IFunc := ⟨0, [.tmp 0],
(.seq (.reg [⟨some 0, .p (.mv (.const (.bool false))), none⟩])
 (.seq (.reg [⟨some 15, .w (.call (.func 14) []), none⟩,
  ⟨some 1, .p (.mv (.tmp 15)), none⟩])
 (.seq (.reg [⟨some 17, .p (.mv (.tmp 1)), none⟩,
  ⟨some 18, .w (.call (.func 28) [(.tmp 17), (.const (.string ⟨#[110, 101, 119, 32, 97, 100, 97, 10, 110, 101, 119, 32, 98, 101, 110, 10, 110, 101, 119, 32, 99, 121, 10, 115, 119, 97, 112, 32, 97, 100, 97, 32, 98, 101, 110, 32, 98, 111, 119, 108, 10, 115, 119, 97, 112, 32, 98, 101, 110, 32, 99, 121, 32, 98, 111, 119, 108, 10, 109, 101, 110, 100, 32, 98, 101, 110, 32, 99, 97, 112, 10]⟩))]), none⟩,
  ⟨some 16, .p (.mv (.tmp 18)), none⟩,
  ⟨some 19, .p (.ext (.tmp 16) 0), none⟩,
  ⟨some 20, .p (.ext (.tmp 16) 1), none⟩,
  ⟨some 2, .p (.mv (.tmp 19)), none⟩,
  ⟨some 3, .p (.mv (.tmp 20)), none⟩])
 (.seq (.reg [⟨some 22, .p (.mv (.tmp 1)), none⟩,
  ⟨some 23, .w (.call (.func 22) [(.tmp 22), (.const (.string ⟨#[97, 100, 97]⟩))]), none⟩,
  ⟨some 21, .p (.mv (.tmp 23)), none⟩,
  ⟨some 24, .p (.ext (.tmp 21) 0), none⟩,
  ⟨some 25, .p (.ext (.tmp 21) 1), none⟩,
  ⟨some 4, .a (.alloc 33 [.int .i64 0, .int .i64 0, .int .i64 0, .int .i64 0]), none⟩,
  ⟨none, .w (.st 4 (.tmp 4) (.tmp 24)), none⟩,
  ⟨some 5, .p (.mv (.tmp 25)), none⟩])
 (.seq (.reg [⟨some 27, .p (.mv (.tmp 1)), none⟩,
  ⟨some 28, .w (.call (.func 22) [(.tmp 27), (.const (.string ⟨#[98, 101, 110]⟩))]), none⟩,
  ⟨some 26, .p (.mv (.tmp 28)), none⟩,
  ⟨some 29, .p (.ext (.tmp 26) 0), none⟩,
  ⟨some 30, .p (.ext (.tmp 26) 1), none⟩,
  ⟨some 6, .a (.alloc 33 [.int .i64 0, .int .i64 0, .int .i64 0, .int .i64 0]), none⟩,
  ⟨none, .w (.st 4 (.tmp 6) (.tmp 29)), none⟩,
  ⟨some 7, .p (.mv (.tmp 30)), none⟩])
 (.seq (.reg [⟨some 32, .p (.mv (.tmp 1)), none⟩,
  ⟨some 33, .w (.call (.func 18) [(.tmp 32), (.const (.int .i64 1)), (.const (.int .i64 4))]), none⟩,
  ⟨some 31, .p (.mv (.tmp 33)), none⟩,
  ⟨some 34, .p (.ext (.tmp 31) 0), none⟩,
  ⟨some 35, .p (.ext (.tmp 31) 1), none⟩,
  ⟨some 8, .p (.mv (.tmp 34)), none⟩,
  ⟨some 9, .p (.mv (.tmp 35)), none⟩])
 (.seq (.reg [⟨some 37, .p (.mv (.tmp 1)), none⟩,
  ⟨some 38, .w (.call (.func 18) [(.tmp 37), (.const (.int .i64 6)), (.const (.int .i64 6))]), none⟩,
  ⟨some 36, .p (.mv (.tmp 38)), none⟩,
  ⟨some 39, .p (.ext (.tmp 36) 0), none⟩,
  ⟨some 40, .p (.ext (.tmp 36) 1), none⟩,
  ⟨some 10, .p (.mv (.tmp 39)), none⟩,
  ⟨some 11, .p (.mv (.tmp 40)), none⟩])
 (.seq (.reg [⟨some 42, .p (.mv (.tmp 1)), none⟩,
  ⟨some 43, .w (.call (.func 20) [(.tmp 42), (.const (.int .i64 13))]), none⟩,
  ⟨some 41, .p (.mv (.tmp 43)), none⟩,
  ⟨some 44, .p (.ext (.tmp 41) 0), none⟩,
  ⟨some 45, .p (.ext (.tmp 41) 1), none⟩,
  ⟨some 12, .p (.mv (.tmp 44)), none⟩,
  ⟨some 13, .p (.mv (.tmp 45)), none⟩])
 (.seqK [1, 6] (.seq (.reg [⟨some 46, .p (.mv (.tmp 3)), none⟩,
  ⟨some 47, .p (.bin .neq (.tmp 46) (.const (.int .i64 0))), none⟩,
  ⟨some 48, .p (.mv (.tmp 47)), none⟩,
  ⟨some 49, .p (.mv (.tmp 5)), some (48, false)⟩,
  ⟨some 50, .p (.bin .neq (.tmp 49) (.const (.int .i64 0))), some (48, false)⟩,
  ⟨some 51, .p (.pick (.tmp 48) (.const (.bool true)) (.tmp 50)), none⟩,
  ⟨some 52, .p (.mv (.tmp 51)), none⟩,
  ⟨some 53, .p (.mv (.tmp 7)), some (52, false)⟩,
  ⟨some 54, .p (.bin .neq (.tmp 53) (.const (.int .i64 0))), some (52, false)⟩,
  ⟨some 55, .p (.pick (.tmp 52) (.const (.bool true)) (.tmp 54)), none⟩,
  ⟨some 56, .p (.mv (.tmp 55)), none⟩,
  ⟨some 57, .p (.mv (.tmp 9)), some (56, false)⟩,
  ⟨some 58, .p (.bin .neq (.tmp 57) (.const (.int .i64 0))), some (56, false)⟩,
  ⟨some 59, .p (.pick (.tmp 56) (.const (.bool true)) (.tmp 58)), none⟩,
  ⟨some 60, .p (.mv (.tmp 59)), none⟩,
  ⟨some 61, .p (.mv (.tmp 11)), some (60, false)⟩,
  ⟨some 62, .p (.bin .neq (.tmp 61) (.const (.int .i64 14))), some (60, false)⟩,
  ⟨some 63, .p (.pick (.tmp 60) (.const (.bool true)) (.tmp 62)), none⟩,
  ⟨some 64, .p (.mv (.tmp 63)), none⟩,
  ⟨some 65, .p (.mv (.tmp 13)), some (64, false)⟩,
  ⟨some 66, .p (.bin .neq (.tmp 65) (.const (.int .i64 0))), some (64, false)⟩,
  ⟨some 67, .p (.pick (.tmp 64) (.const (.bool true)) (.tmp 66)), none⟩,
  ⟨some 68, .p (.mv (.tmp 67)), none⟩,
  ⟨some 69, .p (.mv (.tmp 2)), some (68, false)⟩,
  ⟨some 70, .p (.bin .neq (.tmp 69) (.const (.int .i64 6))), some (68, false)⟩,
  ⟨some 71, .p (.pick (.tmp 68) (.const (.bool true)) (.tmp 70)), none⟩,
  ⟨some 72, .p (.mv (.tmp 71)), none⟩,
  ⟨some 73, .r (.ldN 4 (.tmp 4)), some (72, false)⟩,
  ⟨some 74, .p (.build [.int .i64 0, .int .i64 0, .int .i64 0, .int .i64 0] [(0, 1, (.const (.int .i64 5))), (1, 1, (.const (.int .i64 2))), (2, 1, (.const (.int .i64 3))), (3, 1, (.const (.int .i64 4)))]), some (72, false)⟩,
  ⟨some 75, .p (.eqs (.a 4) 33 true (.tmp 73) (.tmp 74)), some (72, false)⟩,
  ⟨some 76, .p (.pick (.tmp 72) (.const (.bool true)) (.tmp 75)), none⟩,
  ⟨some 77, .p (.mv (.tmp 76)), none⟩,
  ⟨some 78, .r (.ldN 4 (.tmp 6)), some (77, false)⟩,
  ⟨some 79, .p (.build [.int .i64 0, .int .i64 0, .int .i64 0, .int .i64 0] [(0, 1, (.const (.int .i64 9))), (1, 1, (.const (.int .i64 13))), (2, 1, (.const (.int .i64 7))), (3, 1, (.const (.int .i64 8)))]), some (77, false)⟩,
  ⟨some 80, .p (.eqs (.a 4) 33 true (.tmp 78) (.tmp 79)), some (77, false)⟩,
  ⟨some 81, .p (.pick (.tmp 77) (.const (.bool true)) (.tmp 80)), none⟩,
  ⟨some 82, .p (.mv (.tmp 81)), none⟩,
  ⟨some 83, .p (.mv (.tmp 8)), some (82, false)⟩,
  ⟨some 84, .p (.bin .neq (.tmp 83) (.const (.string ⟨#[98, 101, 110]⟩))), some (82, false)⟩,
  ⟨some 85, .p (.pick (.tmp 82) (.const (.bool true)) (.tmp 84)), none⟩,
  ⟨some 86, .p (.mv (.tmp 85)), none⟩,
  ⟨some 87, .p (.mv (.tmp 12)), some (86, false)⟩,
  ⟨some 88, .p (.bin .neq (.tmp 87) (.const (.string ⟨#[98, 101, 110]⟩))), some (86, false)⟩,
  ⟨some 89, .p (.pick (.tmp 86) (.const (.bool true)) (.tmp 88)), none⟩,
  ⟨some 90, .p (.mv (.tmp 89)), none⟩,
  ⟨some 91, .p (.mv (.tmp 1)), some (90, false)⟩,
  ⟨some 92, .w (.call (.func 30) [(.tmp 91)]), some (90, false)⟩,
  ⟨some 93, .p (.bin .neq (.tmp 92) (.const (.int .i64 2))), some (90, false)⟩,
  ⟨some 94, .p (.pick (.tmp 90) (.const (.bool true)) (.tmp 93)), none⟩,
  ⟨some 95, .p (.mv (.tmp 94)), none⟩,
  ⟨some 96, .p (.mv (.tmp 1)), some (95, false)⟩,
  ⟨some 97, .w (.call (.func 29) [(.tmp 96)]), some (95, false)⟩,
  ⟨some 98, .p (.lenV true (.tmp 97)), some (95, false)⟩,
  ⟨some 99, .p (.bin .neq (.tmp 98) (.const (.int .i64 2))), some (95, false)⟩,
  ⟨some 100, .p (.pick (.tmp 95) (.const (.bool true)) (.tmp 99)), none⟩])
 (.cond (.tmp 100)
 (.seq (.reg [⟨some 0, .p (.mv (.const (.bool false))), none⟩])
 .ret)
 .skip))
 (.seqK [1, 6] (.seq (.reg [⟨some 101, .p (.mv (.tmp 1)), none⟩,
  ⟨some 102, .w (.call (.func 16) [(.tmp 101), (.const (.string ⟨#[117, 110, 100, 111]⟩))]), none⟩,
  ⟨some 103, .p (.bin .neq (.tmp 102) (.const (.int .i64 0))), none⟩,
  ⟨some 104, .p (.mv (.tmp 103)), none⟩,
  ⟨some 105, .p (.mv (.tmp 1)), some (104, false)⟩,
  ⟨some 106, .w (.call (.func 16) [(.tmp 105), (.const (.string ⟨#[110, 101, 119, 32, 97, 100, 97]⟩))]), some (104, false)⟩,
  ⟨some 107, .p (.bin .neq (.tmp 106) (.const (.int .i64 7))), some (104, false)⟩,
  ⟨some 108, .p (.pick (.tmp 104) (.const (.bool true)) (.tmp 107)), none⟩,
  ⟨some 109, .p (.mv (.tmp 108)), none⟩,
  ⟨some 110, .p (.mv (.tmp 1)), some (109, false)⟩,
  ⟨some 111, .w (.call (.func 16) [(.tmp 110), (.const (.string ⟨#[115, 119, 97, 112, 32, 97, 100, 97, 32, 97, 100, 97, 32, 99, 97, 112]⟩))]), some (109, false)⟩,
  ⟨some 112, .p (.bin .neq (.tmp 111) (.const (.int .i64 7))), some (109, false)⟩,
  ⟨some 113, .p (.pick (.tmp 109) (.const (.bool true)) (.tmp 112)), none⟩,
  ⟨some 114, .p (.mv (.tmp 113)), none⟩,
  ⟨some 115, .p (.mv (.tmp 1)), some (114, false)⟩,
  ⟨some 116, .w (.call (.func 16) [(.tmp 115), (.const (.string ⟨#[115, 119, 97, 112, 32, 97, 100, 97, 32, 100, 97, 110, 32, 99, 97, 112]⟩))]), some (114, false)⟩,
  ⟨some 117, .p (.bin .neq (.tmp 116) (.const (.int .i64 6))), some (114, false)⟩,
  ⟨some 118, .p (.pick (.tmp 114) (.const (.bool true)) (.tmp 117)), none⟩,
  ⟨some 119, .p (.mv (.tmp 118)), none⟩,
  ⟨some 120, .p (.mv (.tmp 1)), some (119, false)⟩,
  ⟨some 121, .w (.call (.func 16) [(.tmp 120), (.const (.string ⟨#[99, 97, 114, 100, 32, 97, 100, 97, 32, 56, 32, 48]⟩))]), some (119, false)⟩,
  ⟨some 122, .p (.bin .neq (.tmp 121) (.const (.int .i64 1))), some (119, false)⟩,
  ⟨some 123, .p (.pick (.tmp 119) (.const (.bool true)) (.tmp 122)), none⟩,
  ⟨some 124, .p (.mv (.tmp 123)), none⟩,
  ⟨some 125, .p (.mv (.tmp 1)), some (124, false)⟩,
  ⟨some 126, .w (.call (.func 16) [(.tmp 125), (.const (.string ⟨#[99, 97, 114, 100, 32, 97, 100, 97, 32, 49, 32, 43, 50]⟩))]), some (124, false)⟩,
  ⟨some 127, .p (.bin .neq (.tmp 126) (.const (.int .i64 9))), some (124, false)⟩,
  ⟨some 128, .p (.pick (.tmp 124) (.const (.bool true)) (.tmp 127)), none⟩,
  ⟨some 129, .p (.mv (.tmp 128)), none⟩,
  ⟨some 130, .p (.mv (.tmp 1)), some (129, false)⟩,
  ⟨some 131, .w (.call (.func 16) [(.tmp 130), (.const (.string ⟨#[109, 101, 110, 100, 32, 97, 100, 97, 32, 108, 105, 100]⟩))]), some (129, false)⟩,
  ⟨some 132, .p (.bin .neq (.tmp 131) (.const (.int .i64 10))), some (129, false)⟩,
  ⟨some 133, .p (.pick (.tmp 129) (.const (.bool true)) (.tmp 132)), none⟩])
 (.cond (.tmp 133)
 (.seq (.reg [⟨some 0, .p (.mv (.const (.bool false))), none⟩])
 .ret)
 .skip))
 (.seq (.reg [⟨some 135, .p (.mv (.tmp 1)), none⟩,
  ⟨some 136, .w (.call (.func 22) [(.tmp 135), (.const (.string ⟨#[98, 101, 110]⟩))]), none⟩,
  ⟨some 134, .p (.mv (.tmp 136)), none⟩,
  ⟨some 137, .p (.ext (.tmp 134) 0), none⟩,
  ⟨some 138, .p (.ext (.tmp 134) 1), none⟩,
  ⟨none, .w (.st 4 (.tmp 6) (.tmp 137)), none⟩,
  ⟨some 3, .p (.mv (.tmp 138)), none⟩])
 (.seqK [1] (.seq (.reg [⟨some 139, .p (.mv (.tmp 3)), none⟩,
  ⟨some 140, .p (.bin .neq (.tmp 139) (.const (.int .i64 0))), none⟩,
  ⟨some 141, .p (.mv (.tmp 140)), none⟩,
  ⟨some 142, .r (.ldN 4 (.tmp 6)), some (141, false)⟩,
  ⟨some 143, .p (.build [.int .i64 0, .int .i64 0, .int .i64 0, .int .i64 0] [(0, 1, (.const (.int .i64 9))), (1, 1, (.const (.int .i64 6))), (2, 1, (.const (.int .i64 7))), (3, 1, (.const (.int .i64 8)))]), some (141, false)⟩,
  ⟨some 144, .p (.eqs (.a 4) 33 true (.tmp 142) (.tmp 143)), some (141, false)⟩,
  ⟨some 145, .p (.pick (.tmp 141) (.const (.bool true)) (.tmp 144)), none⟩,
  ⟨some 146, .p (.mv (.tmp 145)), none⟩,
  ⟨some 147, .p (.mv (.tmp 1)), some (146, false)⟩,
  ⟨some 148, .w (.call (.func 16) [(.tmp 147), (.const (.string ⟨#[99, 97, 114, 100, 32, 97, 100, 97, 32, 51, 32, 45, 49, 50]⟩))]), some (146, false)⟩,
  ⟨some 149, .p (.bin .neq (.tmp 148) (.const (.int .i64 0))), some (146, false)⟩,
  ⟨some 150, .p (.pick (.tmp 146) (.const (.bool true)) (.tmp 149)), none⟩,
  ⟨some 151, .p (.mv (.tmp 150)), none⟩,
  ⟨some 152, .p (.mv (.tmp 1)), some (151, false)⟩,
  ⟨some 153, .w (.call (.func 16) [(.tmp 152), (.const (.string ⟨#[99, 97, 114, 100, 32, 97, 100, 97, 32, 48, 32, 53]⟩))]), some (151, false)⟩,
  ⟨some 154, .p (.bin .neq (.tmp 153) (.const (.int .i64 0))), some (151, false)⟩,
  ⟨some 155, .p (.pick (.tmp 151) (.const (.bool true)) (.tmp 154)), none⟩,
  ⟨some 156, .p (.mv (.tmp 155)), none⟩,
  ⟨some 157, .p (.mv (.tmp 1)), some (156, false)⟩,
  ⟨some 158, .w (.call (.func 16) [(.tmp 157), (.const (.string ⟨#[99, 97, 114, 100, 32, 97, 100, 97, 32, 51, 32, 55]⟩))]), some (156, false)⟩,
  ⟨some 159, .p (.bin .neq (.tmp 158) (.const (.int .i64 0))), some (156, false)⟩,
  ⟨some 160, .p (.pick (.tmp 156) (.const (.bool true)) (.tmp 159)), none⟩])
 (.cond (.tmp 160)
 (.seq (.reg [⟨some 0, .p (.mv (.const (.bool false))), none⟩])
 .ret)
 .skip))
 (.seq (.reg [⟨some 162, .p (.mv (.tmp 1)), none⟩,
  ⟨some 163, .w (.call (.func 24) [(.tmp 162), (.const (.string ⟨#[97, 100, 97]⟩))]), none⟩,
  ⟨some 161, .p (.mv (.tmp 163)), none⟩,
  ⟨some 164, .p (.ext (.tmp 161) 0), none⟩,
  ⟨some 165, .p (.ext (.tmp 161) 1), none⟩,
  ⟨some 14, .p (.mv (.tmp 164)), none⟩,
  ⟨some 3, .p (.mv (.tmp 165)), none⟩])
 (.seq (.reg [⟨some 166, .p (.mv (.tmp 3)), none⟩,
  ⟨some 167, .p (.bin .eql (.tmp 166) (.const (.int .i64 0))), none⟩,
  ⟨some 168, .p (.mv (.tmp 167)), none⟩,
  ⟨some 169, .p (.mv (.tmp 14)), some (168, true)⟩,
  ⟨some 170, .p (.bin .eql (.tmp 169) (.const (.string ⟨#[97, 100, 97, 10, 48, 32, 53, 10, 51, 32, 55, 10]⟩))), some (168, true)⟩,
  ⟨some 171, .p (.pick (.tmp 168) (.tmp 170) (.const (.bool false))), none⟩,
  ⟨some 172, .p (.mv (.tmp 171)), none⟩,
  ⟨some 173, .w (.call (.func 14) []), some (172, true)⟩,
  ⟨some 174, .w (.call (.func 42) [(.tmp 173)]), some (172, true)⟩,
  ⟨some 175, .p (.bin .eql (.tmp 174) (.const (.string ⟨#[99, 111, 109, 112, 97, 115, 115, 101, 115, 32, 48, 10, 115, 117, 109, 32, 51, 51, 53, 54, 10]⟩))), some (172, true)⟩,
  ⟨some 176, .p (.pick (.tmp 172) (.tmp 175) (.const (.bool false))), none⟩,
  ⟨some 0, .p (.mv (.tmp 176)), none⟩])
 .ret))))))))))))))⟩
/- agonic/logbook.New -/
def c14 : IFunc := ⟨0, [.tmp 0],
(.seq (.reg [⟨some 0, .p (.mv (.const (.pointer none))), none⟩])
 (.seq (.reg [⟨some 1, .p (.build [.slice none 0 0, .slice none 0 0] []), none⟩,
  ⟨some 2, .a (.box 95 (.tmp 1)), none⟩,
  ⟨some 3, .p (.build [.pointer none, .slice none 0 0, .slice none 0 0] [(0, 1, (.tmp 2))]), none⟩,
  ⟨some 4, .a (.box 68 (.tmp 3)), none⟩,
  ⟨some 0, .p (.mv (.tmp 4)), none⟩])
 .ret))⟩
/- (*agonic/logbook.Book).Do -/
def c16 : IFunc := ⟨2, [.tmp 4],
(.seq (.reg [⟨some 4, .p (.mv (.const (.int .i64 0))), none⟩])
 (.seqK [0, 1] (.seq (.reg [⟨some 8, .p (.mv (.tmp 0)), none⟩,
  ⟨some 9, .w (.call (.func 51) [(.tmp 8)]), none⟩])
 (.cond (.tmp 9)
 (.seq (.reg [⟨some 4, .p (.mv (.const (.int .i64 11))), none⟩])
 .ret)
 .skip))
 (.seq (.reg [⟨some 11, .p (.mv (.tmp 1)), none⟩,
  ⟨some 12, .w (.call (.func 52) [(.tmp 11)]), none⟩,
  ⟨some 10, .p (.mv (.tmp 12)), none⟩,
  ⟨some 13, .p (.ext (.tmp 10) 0), none⟩,
  ⟨some 14, .p (.ext (.tmp 10) 1), none⟩,
  ⟨some 5, .p (.mv (.tmp 13)), none⟩,
  ⟨some 6, .p (.mv (.tmp 14)), none⟩])
 (.seqK [0, 1, 5] (.seq (.reg [⟨some 15, .p (.mv (.tmp 6)), none⟩,
  ⟨some 16, .p (.bin .neq (.tmp 15) (.const (.int .i64 0))), none⟩])
 (.cond (.tmp 16)
 (.seq (.reg [⟨some 17, .p (.mv (.tmp 6)), none⟩,
  ⟨some 4, .p (.mv (.tmp 17)), none⟩])
 .ret)
 .skip))
 (.seqK [0, 1, 5] (.seq (.reg [⟨some 18, .p (.mv (.tmp 5)), none⟩,
  ⟨some 19, .p (.eqs .i 99 false (.tmp 18) (.const (.nilIface))), none⟩])
 (.cond (.tmp 19)
 (.seq (.reg [⟨some 20, .p (.mv (.tmp 0)), none⟩,
  ⟨some 21, .w (.call (.func 53) [(.tmp 20)]), none⟩,
  ⟨some 4, .p (.mv (.tmp 21)), none⟩])
 .ret)
 .skip))
 (.seqK [0, 1, 5] (.seq (.regD [(⟨some 22, .p (.mv (.tmp 5)), none⟩, [5]),
  (⟨some 23, .p (.mv (.tmp 0)), none⟩, [0]),
  (⟨some 24, .p (.nilc (.tmp 23)), none⟩, [23]),
  (⟨some 25, .p (.faddr 0 (.tmp 24)), none⟩, [24]),
  (⟨some 26, .r (.ld (.tmp 25)), none⟩, [25]),
  (⟨some 27, .p (.mkF (.method "agonic/logbook.check") [(.tmp 22)] []), none⟩, [22]),
  (⟨some 28, .p (.nilc (.tmp 27)), none⟩, [27]),
  (⟨some 29, .p (.mv (.tmp 22)), none⟩, [22]),
  (⟨some 30, .w (.inv (.tmp 29) "agonic/logbook.check" [(.tmp 26)]), none⟩, [26, 29]),
  (⟨some 7, .p (.mv (.tmp 30)), none⟩, [30])] [])
 (.seq (.reg [⟨some 31, .p (.mv (.tmp 7)), none⟩,
  ⟨some 32, .p (.bin .neq (.tmp 31) (.const (.int .i64 0))), none⟩])
 (.cond (.tmp 32)
 (.seq (.reg [⟨some 33, .p (.mv (.tmp 7)), none⟩,
  ⟨some 4, .p (.mv (.tmp 33)), none⟩])
 .ret)
 .skip)))
 (.seqK [0, 1, 5] (.seq (.reg [⟨some 34, .p (.mv (.tmp 0)), none⟩,
  ⟨some 35, .p (.nilc (.tmp 34)), none⟩,
  ⟨some 36, .p (.faddr 1 (.tmp 35)), none⟩,
  ⟨some 37, .r (.ld (.tmp 36)), none⟩,
  ⟨some 38, .p (.lenV true (.tmp 37)), none⟩,
  ⟨some 39, .p (.bin .eql (.tmp 38) (.const (.int .i64 200))), none⟩])
 (.cond (.tmp 39)
 (.seq (.reg [⟨some 4, .p (.mv (.const (.int .i64 17))), none⟩])
 .ret)
 .skip))
 (.seq (.regD [(⟨some 40, .p (.mv (.tmp 5)), none⟩, [5]),
  (⟨some 41, .p (.mv (.tmp 0)), none⟩, [0]),
  (⟨some 42, .p (.nilc (.tmp 41)), none⟩, [41]),
  (⟨some 43, .p (.faddr 0 (.tmp 42)), none⟩, [42]),
  (⟨some 44, .r (.ld (.tmp 43)), none⟩, [43]),
  (⟨some 45, .p (.mkF (.method "agonic/logbook.apply") [(.tmp 40)] []), none⟩, [40]),
  (⟨some 46, .p (.nilc (.tmp 45)), none⟩, [45]),
  (⟨some 47, .p (.mv (.tmp 40)), none⟩, [40]),
  (⟨some 48, .w (.inv (.tmp 47) "agonic/logbook.apply" [(.tmp 44)]), none⟩, [44, 47])] [])
 (.seq (.regD [(⟨some 49, .p (.mv (.tmp 0)), none⟩, [0]),
  (⟨some 50, .p (.mv (.tmp 0)), none⟩, [0]),
  (⟨some 51, .p (.mv (.tmp 0)), none⟩, [0]),
  (⟨some 52, .p (.nilc (.tmp 51)), none⟩, [51]),
  (⟨some 53, .p (.faddr 1 (.tmp 52)), none⟩, [52]),
  (⟨some 54, .r (.ld (.tmp 53)), none⟩, [53]),
  (⟨some 55, .p (.mv (.tmp 1)), none⟩, [1]),
  (⟨some 56, .a (.mkSl 9 [.string ⟨#[]⟩] 1 [(0, 1, (.tmp 55))]), none⟩, [55]),
  (⟨some 57, .w (.app 9 1 16 (.tmp 54) (.tmp 56)), none⟩, [54, 56]),
  (⟨some 58, .p (.mv (.tmp 0)), none⟩, [0]),
  (⟨some 59, .p (.nilc (.tmp 58)), none⟩, [58]),
  (⟨some 60, .p (.faddr 2 (.tmp 59)), none⟩, [59]),
  (⟨some 61, .r (.ld (.tmp 60)), none⟩, [60]),
  (⟨some 62, .p (.mv (.tmp 5)), none⟩, [5]),
  (⟨some 63, .a (.mkSl 99 [.nilIface] 1 [(0, 1, (.tmp 62))]), none⟩, [62]),
  (⟨some 64, .w (.app 99 1 16 (.tmp 61) (.tmp 63)), none⟩, [61, 63]),
  (⟨some 65, .p (.nilc (.tmp 49)), none⟩, [49]),
  (⟨some 66, .p (.faddr 1 (.tmp 65)), none⟩, [65]),
  (⟨none, .w (.st 1 (.tmp 66) (.tmp 57)), none⟩, [57, 66]),
  (⟨some 67, .p (.nilc (.tmp 50)), none⟩, [50]),
  (⟨some 68, .p (.faddr 2 (.tmp 67)), none⟩, [67]),
  (⟨none, .w (.st 1 (.tmp 68) (.tmp 64)), none⟩, [64, 68])] [(12, [8])])
 (.seq (.reg [⟨some 4, .p (.mv (.const (.int .i64 0))), none⟩])
 .ret))))))))))⟩
/- (*agonic/logbook.Book).Holder -/
def c18 : IFunc := ⟨3, [.tmp 6, .tmp 7],
(.seq (.reg [⟨some 6, .p (.mv (.const (.string ⟨#[]⟩))), none⟩,
  ⟨some 7, .p (.mv (.const (.int .i64 0))), none⟩])
 (.seqK [0, 1, 2] (.block 0 (.seq (.reg [⟨some 17, .p (.mv (.tmp 0)), none⟩,
  ⟨some 18, .w (.call (.func 51) [(.tmp 17)]), none⟩,
  ⟨some 16, .p (.mv (.tmp 18)), none⟩])
 (.cond (.tmp 16)
 (.seq (.reg [⟨some 6, .p (.mv (.const (.string ⟨#[]⟩))), none⟩,
  ⟨some 7, .p (.mv (.const (.int .i64 11))), none⟩])
 .ret)
 (.seq (.reg [⟨some 20, .p (.mv (.tmp 2)), none⟩,
  ⟨some 21, .p (.bin .lss (.tmp 20) (.const (.int .i64 0))), none⟩,
  ⟨some 22, .p (.mv (.tmp 21)), none⟩,
  ⟨some 23, .p (.mv (.tmp 2)), some (22, false)⟩,
  ⟨some 24, .p (.mv (.tmp 0)), some (22, false)⟩,
  ⟨some 25, .p (.nilc (.tmp 24)), some (22, false)⟩,
  ⟨some 26, .p (.faddr 1 (.tmp 25)), some (22, false)⟩,
  ⟨some 27, .r (.ld (.tmp 26)), some (22, false)⟩,
  ⟨some 28, .p (.lenV true (.tmp 27)), some (22, false)⟩,
  ⟨some 29, .p (.bin .gtr (.tmp 23) (.tmp 28)), some (22, false)⟩,
  ⟨some 30, .p (.pick (.tmp 22) (.const (.bool true)) (.tmp 29)), none⟩,
  ⟨some 19, .p (.mv (.tmp 30)), none⟩])
 (.cond (.tmp 19)
 (.seq (.reg [⟨some 6, .p (.mv (.const (.string ⟨#[]⟩))), none⟩,
  ⟨some 7, .p (.mv (.const (.int .i64 1))), none⟩])
 .ret)
 .skip)))))
 (.seq (.reg [⟨some 31, .p (.build [.slice none 0 0, .slice none 0 0] []), none⟩,
  ⟨some 32, .a (.box 95 (.tmp 31)), none⟩,
  ⟨some 8, .p (.mv (.tmp 32)), none⟩])
 (.seqK [1, 8] (.seq (.reg [⟨some 33, .p (.mv (.tmp 0)), none⟩,
  ⟨some 34, .p (.nilc (.tmp 33)), none⟩,
  ⟨some 35, .p (.faddr 2 (.tmp 34)), none⟩,
  ⟨some 36, .r (.ld (.tmp 35)), none⟩,
  ⟨some 37, .p (.mv (.tmp 2)), none⟩,
  ⟨some 38, .r (.slSl 99 1 (.tmp 36) none (some (.tmp 37)) none), none⟩,
  ⟨some 39, .p (.lenV true (.tmp 38)), none⟩,
  ⟨some 40, .p (.mv (.const (.int .i64 0))), none⟩])
 (.block 1 (.loop [1, 8, 38, 39, 40] (.seq (.reg [⟨some 41, .p (.bin .lss (.tmp 40) (.tmp 39)), none⟩])
 (.seqK [1, 8, 38, 39, 40] (.cond (.tmp 41)
 .skip
 (.exit 1))
 (.seqK [1, 8, 38, 39, 40] (.block 2 (.seq (.reg [⟨some 42, .p (.iadS 1 (.tmp 38) (.tmp 40)), none⟩,
  ⟨some 43, .r (.ld (.tmp 42)), none⟩,
  ⟨some 10, .p (.mv (.tmp 43)), none⟩])
 (.seq (.reg [⟨some 44, .p (.mv (.tmp 10)), none⟩])
 (.block 3 (.seq (.reg [⟨some 48, .p (.tas 111 (.pointer none) true (.tmp 44)), none⟩,
  ⟨some 49, .p (.ext (.tmp 48) 1), none⟩,
  ⟨some 50, .p (.ext (.tmp 48) 0), none⟩])
 (.cond (.tmp 49)
 (.reg [⟨some 11, .p (.mv (.tmp 50)), none⟩])
 (.seq (.reg [⟨some 51, .p (.tas 112 (.pointer none) true (.tmp 44)), none⟩,
  ⟨some 52, .p (.ext (.tmp 51) 1), none⟩,
  ⟨some 53, .p (.ext (.tmp 51) 0), none⟩])
 (.cond (.tmp 52)
 (.seq (.reg [⟨some 12, .p (.mv (.tmp 53)), none⟩])
 (.seq (.reg [⟨some 54, .p (.mv (.tmp 12)), none⟩,
  ⟨some 55, .p (.nilc (.tmp 54)), none⟩,
  ⟨some 56, .r (.ldN 3 (.tmp 55)), none⟩,
  ⟨some 13, .a (.alloc 114 [.string ⟨#[]⟩, .int .i64 0, .int .i64 0]), none⟩,
  ⟨none, .w (.st 3 (.tmp 13) (.tmp 56)), none⟩])
 (.reg [⟨some 57, .p (.mv (.tmp 8)), none⟩,
  ⟨some 58, .w (.call (.func 57) [(.tmp 13), (.tmp 57)]), none⟩])))
 (.seq (.reg [⟨some 14, .p (.mv (.tmp 44)), none⟩])
 (.reg [⟨some 45, .p (.mv (.tmp 14)), none⟩,
  ⟨some 46, .p (.mv (.tmp 8)), none⟩,
  ⟨some 47, .w (.inv (.tmp 45) "agonic/logbook.apply" [(.tmp 46)]), none⟩]))))))))))
 (.reg [⟨some 59, .p (.bin .add (.tmp 40) (.const (.int .i64 1))), none⟩,
  ⟨some 40, .p (.mv (.tmp 59)), none⟩])))))))
 (.seqK [1, 8] (.seq (.reg [⟨some 60, .p (.mv (.tmp 1)), none⟩,
  ⟨some 61, .p (.bin .lss (.tmp 60) (.const (.int .i64 1))), none⟩,
  ⟨some 62, .p (.mv (.tmp 61)), none⟩,
  ⟨some 63, .p (.mv (.tmp 1)), some (62, false)⟩,
  ⟨some 64, .p (.mv (.tmp 8)), some (62, false)⟩,
  ⟨some 65, .p (.nilc (.tmp 64)), some (62, false)⟩,
  ⟨some 66, .p (.faddr 1 (.tmp 65)), some (62, false)⟩,
  ⟨some 67, .r (.ld (.tmp 66)), some (62, false)⟩,
  ⟨some 68, .p (.lenV true (.tmp 67)), some (62, false)⟩,
  ⟨some 69, .p (.bin .gtr (.tmp 63) (.tmp 68)), some (62, false)⟩,
  ⟨some 70, .p (.pick (.tmp 62) (.const (.bool true)) (.tmp 69)), none⟩])
 (.cond (.tmp 70)
 (.seq (.reg [⟨some 6, .p (.mv (.const (.string ⟨#[]⟩))), none⟩,
  ⟨some 7, .p (.mv (.const (.int .i64 6))), none⟩])
 .ret)
 .skip))
 (.seq (.reg [⟨some 71, .p (.mv (.tmp 8)), none⟩,
  ⟨some 72, .p (.nilc (.tmp 71)), none⟩,
  ⟨some 73, .p (.faddr 1 (.tmp 72)), none⟩,
  ⟨some 74, .r (.ld (.tmp 73)), none⟩,
  ⟨some 75, .p (.mv (.tmp 1)), none⟩,
  ⟨some 76, .p (.bin .sub (.tmp 75) (.const (.int .i64 1))), none⟩,
  ⟨some 77, .p (.iadS 2 (.tmp 74) (.tmp 76)), none⟩,
  ⟨some 78, .p (.faddr 0 (.tmp 77)), none⟩,
  ⟨some 79, .r (.ld (.tmp 78)), none⟩,
  ⟨some 15, .p (.mv (.tmp 79)), none⟩])
 (.seqK [8, 15] (.seq (.reg [⟨some 80, .p (.mv (.tmp 15)), none⟩,
  ⟨some 81, .p (.bin .lss (.tmp 80) (.const (.int .i64 0))), none⟩])
 (.cond (.tmp 81)
 (.seq (.reg [⟨some 6, .p (.mv (.const (.string ⟨#[]⟩))), none⟩,
  ⟨some 7, .p (.mv (.const (.int .i64 14))), none⟩])
 .ret)
 .skip))
 (.seq (.reg [⟨some 82, .p (.mv (.tmp 8)), none⟩,
  ⟨some 83, .p (.nilc (.tmp 82)), none⟩,
  ⟨some 84, .p (.faddr 0 (.tmp 83)), none⟩,
  ⟨some 85, .r (.ld (.tmp 84)), none⟩,
  ⟨some 86, .p (.mv (.tmp 15)), none⟩,
  ⟨some 87, .p (.iadS 21 (.tmp 85) (.tmp 86)), none⟩,
  ⟨some 88, .p (.faddr 0 (.tmp 87)), none⟩,
  ⟨some 89, .r (.ld (.tmp 88)), none⟩,
  ⟨some 6, .p (.mv (.tmp 89)), none⟩,
  ⟨some 7, .p (.mv (.const (.int .i64 0))), none⟩])
 .ret))))))))⟩
/- (*agonic/logbook.Book).Home -/
def c20 : IFunc := ⟨2, [.tmp 4, .tmp 5],
(.seq (.reg [⟨some 4, .p (.mv (.const (.string ⟨#[]⟩))), none⟩,
  ⟨some 5, .p (.mv (.const (.int .i64 0))), none⟩])
 (.seqK [0, 1] (.block 0 (.seq (.reg [⟨some 7, .p (.mv (.tmp 0)), none⟩,
  ⟨some 8, .w (.call (.func 51) [(.tmp 7)]), none⟩,
  ⟨some 6, .p (.mv (.tmp 8)), none⟩])
 (.cond (.tmp 6)
 (.seq (.reg [⟨some 4, .p (.mv (.const (.string ⟨#[]⟩))), none⟩,
  ⟨some 5, .p (.mv (.const (.int .i64 11))), none⟩])
 .ret)
 (.seq (.reg [⟨some 10, .p (.mv (.tmp 1)), none⟩,
  ⟨some 11, .p (.bin .lss (.tmp 10) (.const (.int .i64 1))), none⟩,
  ⟨some 12, .p (.mv (.tmp 11)), none⟩,
  ⟨some 13, .p (.mv (.tmp 1)), some (12, false)⟩,
  ⟨some 14, .p (.mv (.tmp 0)), some (12, false)⟩,
  ⟨some 15, .p (.nilc (.tmp 14)), some (12, false)⟩,
  ⟨some 16, .p (.faddr 0 (.tmp 15)), some (12, false)⟩,
  ⟨some 17, .r (.ld (.tmp 16)), some (12, false)⟩,
  ⟨some 18, .p (.nilc (.tmp 17)), some (12, false)⟩,
  ⟨some 19, .p (.faddr 1 (.tmp 18)), some (12, false)⟩,
  ⟨some 20, .r (.ld (.tmp 19)), some (12, false)⟩,
  ⟨some 21, .p (.lenV true (.tmp 20)), some (12, false)⟩,
  ⟨some 22, .p (.bin .gtr (.tmp 13) (.tmp 21)), some (12, false)⟩,
  ⟨some 23, .p (.pick (.tmp 12) (.const (.bool true)) (.tmp 22)), none⟩,
  ⟨some 9, .p (.mv (.tmp 23)), none⟩])
 (.cond (.tmp 9)
 (.seq (.reg [⟨some 4, .p (.mv (.const (.string ⟨#[]⟩))), none⟩,
  ⟨some 5, .p (.mv (.const (.int .i64 6))), none⟩])
 .ret)
 .skip)))))
 (.seq (.regD [(⟨some 24, .p (.mv (.tmp 0)), none⟩, [0]),
  (⟨some 25, .p (.nilc (.tmp 24)), none⟩, [24]),
  (⟨some 26, .p (.faddr 0 (.tmp 25)), none⟩, [25]),
  (⟨some 27, .r (.ld (.tmp 26)), none⟩, [26]),
  (⟨some 28, .p (.nilc (.tmp 27)), none⟩, [27]),
  (⟨some 29, .p (.faddr 0 (.tmp 28)), none⟩, [28]),
  (⟨some 30, .r (.ld (.tmp 29)), none⟩, [29]),
  (⟨some 31, .p (.mv (.tmp 0)), none⟩, [0]),
  (⟨some 32, .p (.nilc (.tmp 31)), none⟩, [31]),
  (⟨some 33, .p (.faddr 0 (.tmp 32)), none⟩, [32]),
  (⟨some 34, .r (.ld (.tmp 33)), none⟩, [33]),
  (⟨some 35, .p (.nilc (.tmp 34)), none⟩, [34]),
  (⟨some 36, .p (.faddr 1 (.tmp 35)), none⟩, [35]),
  (⟨some 37, .r (.ld (.tmp 36)), none⟩, [36]),
  (⟨some 38, .p (.mv (.tmp 1)), none⟩, [1]),
  (⟨some 39, .p (.bin .sub (.tmp 38) (.const (.int .i64 1))), none⟩, [38]),
  (⟨some 40, .p (.iadS 2 (.tmp 37) (.tmp 39)), none⟩, [37, 39]),
  (⟨some 41, .p (.faddr 1 (.tmp 40)), none⟩, [40]),
  (⟨some 42, .r (.ld (.tmp 41)), none⟩, [41]),
  (⟨some 43, .p (.iadS 21 (.tmp 30) (.tmp 42)), none⟩, [30, 42]),
  (⟨some 44, .p (.faddr 0 (.tmp 43)), none⟩, [43]),
  (⟨some 45, .r (.ld (.tmp 44)), none⟩, [44]),
  (⟨some 4, .p (.mv (.tmp 45)), none⟩, [45]),
  (⟨some 5, .p (.mv (.const (.int .i64 0))), none⟩, [])] [])
 .ret)))⟩
/- (*agonic/logbook.Book).Parts -/
def c22 : IFunc := ⟨2, [.cells 4 4, .tmp 5],
(.seq (.reg [⟨some 4, .a (.alloc 33 [.int .i64 0, .int .i64 0, .int .i64 0, .int .i64 0]), none⟩,
  ⟨some 5, .p (.mv (.const (.int .i64 0))), none⟩])
 (.seq (.reg [⟨some 11, .p (.mv (.tmp 0)), none⟩,
  ⟨some 12, .p (.mv (.tmp 1)), none⟩,
  ⟨some 13, .w (.call (.func 60) [(.tmp 11), (.tmp 12)]), none⟩,
  ⟨some 10, .p (.mv (.tmp 13)), none⟩,
  ⟨some 14, .p (.ext (.tmp 10) 0), none⟩,
  ⟨some 15, .p (.ext (.tmp 10) 1), none⟩,
  ⟨some 6, .a (.alloc 120 [.string ⟨#[]⟩, .int .i64 0, .int .i64 0, .int .i64 0, .int .i64 0, .int .i64 0, .int .i64 0, .int .i64 0, .int .i64 0, .int .i64 0, .int .i64 0, .int .i64 0, .int .i64 0, .bool false, .bool false, .bool false, .bool false, .bool false, .bool false, .bool false, .bool false]), none⟩,
  ⟨none, .w (.st 21 (.tmp 6) (.tmp 14)), none⟩,
  ⟨some 7, .p (.mv (.tmp 15)), none⟩])
 (.seqK [4, 6] (.seq (.reg [⟨some 16, .p (.mv (.tmp 7)), none⟩,
  ⟨some 17, .p (.bin .neq (.tmp 16) (.const (.int .i64 0))), none⟩])
 (.cond (.tmp 17)
 (.seq (.reg [⟨some 18, .p (.build [.int .i64 0, .int .i64 0, .int .i64 0, .int .i64 0] []), none⟩,
  ⟨some 19, .p (.mv (.tmp 7)), none⟩,
  ⟨none, .w (.st 4 (.tmp 4) (.tmp 18)), none⟩,
  ⟨some 5, .p (.mv (.tmp 19)), none⟩])
 .ret)
 .skip))
 (.seq (.reg [⟨some 20, .p (.faddr 1 (.tmp 6)), none⟩,
  ⟨some 21, .r (.ldN 4 (.tmp 20)), none⟩,
  ⟨some 8, .a (.alloc 33 [.int .i64 0, .int .i64 0, .int .i64 0, .int .i64 0]), none⟩,
  ⟨none, .w (.st 4 (.tmp 8) (.tmp 21)), none⟩])
 (.seqK [4, 8] (.seq (.reg [⟨some 22, .p (.mv (.const (.int .i64 0))), none⟩])
 (.block 0 (.loop [4, 8, 22] (.seq (.reg [⟨some 23, .p (.bin .lss (.tmp 22) (.const (.int .i64 4))), none⟩])
 (.seqK [4, 8, 22] (.cond (.tmp 23)
 .skip
 (.exit 0))
 (.seqK [4, 8, 22] (.block 1 (.seq (.reg [⟨some 24, .p (.mv (.tmp 22)), none⟩,
  ⟨some 9, .p (.mv (.tmp 24)), none⟩])
 (.reg [⟨some 25, .p (.mv (.tmp 9)), none⟩,
  ⟨some 26, .p (.iadA 4 1 (.tmp 8) (.tmp 25)), none⟩,
  ⟨some 27, .r (.ld (.tmp 26)), none⟩,
  ⟨some 28, .p (.bin .add (.tmp 27) (.const (.int .i64 1))), none⟩,
  ⟨some 29, .p (.iadA 4 1 (.tmp 8) (.tmp 25)), none⟩,
  ⟨none, .w (.st 1 (.tmp 29) (.tmp 28)), none⟩])))
 (.reg [⟨some 30, .p (.bin .add (.tmp 22) (.const (.int .i64 1))), none⟩,
  ⟨some 22, .p (.mv (.tmp 30)), none⟩])))))))
 (.seq (.reg [⟨some 31, .r (.ldN 4 (.tmp 8)), none⟩,
  ⟨none, .w (.st 4 (.tmp 4) (.tmp 31)), none⟩,
  ⟨some 5, .p (.mv (.const (.int .i64 0))), none⟩])
 .ret))))))⟩
/- (*agonic/logbook.Book).CardFile -/
def c24 : IFunc := ⟨2, [.tmp 4, .tmp 5],
(.seq (.reg [⟨some 4, .p (.mv (.const (.string ⟨#[]⟩))), none⟩,
  ⟨some 5, .p (.mv (.const (.int .i64 0))), none⟩])
 (.seq (.reg [⟨some 12, .p (.mv (.tmp 0)), none⟩,
  ⟨some 13, .p (.mv (.tmp 1)), none⟩,
  ⟨some 14, .w (.call (.func 26) [(.tmp 12), (.tmp 13)]), none⟩,
  ⟨some 11, .p (.mv (.tmp 14)), none⟩,
  ⟨some 15, .p (.ext (.tmp 11) 0), none⟩,
  ⟨some 16, .p (.ext (.tmp 11) 1), none⟩,
  ⟨some 6, .p (.mv (.tmp 15)), none⟩,
  ⟨some 7, .p (.mv (.tmp 16)), none⟩])
 (.seqK [1, 6] (.seq (.reg [⟨some 17, .p (.mv (.tmp 7)), none⟩,
  ⟨some 18, .p (.bin .neq (.tmp 17) (.const (.int .i64 0))), none⟩])
 (.cond (.tmp 18)
 (.seq (.reg [⟨some 19, .p (.mv (.tmp 7)), none⟩,
  ⟨some 4, .p (.mv (.const (.string ⟨#[]⟩))), none⟩,
  ⟨some 5, .p (.mv (.tmp 19)), none⟩])
 .ret)
 .skip))
 (.seq (.reg [⟨some 20, .p (.mv (.tmp 1)), none⟩,
  ⟨some 21, .p (.bin .add (.tmp 20) (.const (.string ⟨#[10]⟩))), none⟩,
  ⟨some 8, .p (.mv (.tmp 21)), none⟩])
 (.seqK [8] (.seq (.reg [⟨some 22, .p (.mv (.tmp 6)), none⟩,
  ⟨some 23, .p (.lenV true (.tmp 22)), none⟩,
  ⟨some 24, .p (.mv (.const (.int .i64 0))), none⟩])
 (.block 0 (.loop [8, 22, 23, 24] (.seq (.reg [⟨some 25, .p (.bin .lss (.tmp 24) (.tmp 23)), none⟩])
 (.seqK [8, 22, 23, 24] (.cond (.tmp 25)
 .skip
 (.exit 0))
 (.seqK [8, 22, 23, 24] (.block 1 (.seq (.reg [⟨some 26, .p (.iadS 2 (.tmp 22) (.tmp 24)), none⟩,
  ⟨some 27, .r (.ldN 2 (.tmp 26)), none⟩,
  ⟨some 10, .a (.alloc 45 [.int .i64 0, .int .i64 0]), none⟩,
  ⟨none, .w (.st 2 (.tmp 10) (.tmp 27)), none⟩])
 (.regD [(⟨some 28, .p (.mv (.tmp 8)), none⟩, [8]),
  (⟨some 29, .p (.faddr 0 (.tmp 10)), none⟩, [10]),
  (⟨some 30, .r (.ld (.tmp 29)), none⟩, [29]),
  (⟨some 31, .w (.call (.func 45) [(.tmp 30)]), none⟩, [30]),
  (⟨some 32, .p (.bin .add (.tmp 31) (.const (.string ⟨#[32]⟩))), none⟩, [31]),
  (⟨some 33, .p (.faddr 1 (.tmp 10)), none⟩, [10]),
  (⟨some 34, .r (.ld (.tmp 33)), none⟩, [33]),
  (⟨some 35, .w (.call (.func 45) [(.tmp 34)]), none⟩, [34]),
  (⟨some 36, .p (.bin .add (.tmp 32) (.tmp 35)), none⟩, [32, 35]),
  (⟨some 37, .p (.bin .add (.tmp 36) (.const (.string ⟨#[10]⟩))), none⟩, [36]),
  (⟨some 38, .p (.bin .add (.tmp 28) (.tmp 37)), none⟩, [28, 37]),
  (⟨some 8, .p (.mv (.tmp 38)), none⟩, [38])] [(6, [3])])))
 (.reg [⟨some 39, .p (.bin .add (.tmp 24) (.const (.int .i64 1))), none⟩,
  ⟨some 24, .p (.mv (.tmp 39)), none⟩])))))))
 (.seq (.reg [⟨some 40, .p (.mv (.tmp 8)), none⟩,
  ⟨some 4, .p (.mv (.tmp 40)), none⟩,
  ⟨some 5, .p (.mv (.const (.int .i64 0))), none⟩])
 .ret))))))⟩
/- (*agonic/logbook.Book).Card -/
def c26 : IFunc := ⟨2, [.tmp 4, .tmp 5],
(.seq (.reg [⟨some 4, .p (.mv (.const (.slice none 0 0))), none⟩,
  ⟨some 5, .p (.mv (.const (.int .i64 0))), none⟩])
 (.seq (.reg [⟨some 12, .p (.mv (.tmp 0)), none⟩,
  ⟨some 13, .p (.mv (.tmp 1)), none⟩,
  ⟨some 14, .w (.call (.func 60) [(.tmp 12), (.tmp 13)]), none⟩,
  ⟨some 11, .p (.mv (.tmp 14)), none⟩,
  ⟨some 15, .p (.ext (.tmp 11) 0), none⟩,
  ⟨some 16, .p (.ext (.tmp 11) 1), none⟩,
  ⟨some 6, .a (.alloc 120 [.string ⟨#[]⟩, .int .i64 0, .int .i64 0, .int .i64 0, .int .i64 0, .int .i64 0, .int .i64 0, .int .i64 0, .int .i64 0, .int .i64 0, .int .i64 0, .int .i64 0, .int .i64 0, .bool false, .bool false, .bool false, .bool false, .bool false, .bool false, .bool false, .bool false]), none⟩,
  ⟨none, .w (.st 21 (.tmp 6) (.tmp 15)), none⟩,
  ⟨some 7, .p (.mv (.tmp 16)), none⟩])
 (.seqK [6] (.seq (.reg [⟨some 17, .p (.mv (.tmp 7)), none⟩,
  ⟨some 18, .p (.bin .neq (.tmp 17) (.const (.int .i64 0))), none⟩])
 (.cond (.tmp 18)
 (.seq (.reg [⟨some 19, .p (.mv (.tmp 7)), none⟩,
  ⟨some 4, .p (.mv (.const (.slice none 0 0))), none⟩,
  ⟨some 5, .p (.mv (.tmp 19)), none⟩])
 .ret)
 .skip))
 (.seq (.reg [⟨some 8, .p (.mv (.const (.slice none 0 0))), none⟩])
 (.seqK [8] (.seq (.reg [⟨some 20, .p (.faddr 13 (.tmp 6)), none⟩,
  ⟨some 21, .r (.ldN 8 (.tmp 20)), none⟩,
  ⟨some 22, .p (.mv (.const (.int .i64 0))), none⟩])
 (.block 0 (.loop [6, 8, 21, 22] (.seq (.reg [⟨some 23, .p (.bin .lss (.tmp 22) (.const (.int .i64 8))), none⟩])
 (.seqK [6, 8, 21, 22] (.cond (.tmp 23)
 .skip
 (.exit 0))
 (.seqK [6, 8, 21, 22] (.block 1 (.seq (.reg [⟨some 24, .p (.mv (.tmp 22)), none⟩,
  ⟨some 25, .p (.idxA false 8 1 (.tmp 21) (.tmp 22)), none⟩,
  ⟨some 9, .p (.mv (.tmp 24)), none⟩,
  ⟨some 10, .p (.mv (.tmp 25)), none⟩])
 (.seq (.reg [⟨some 26, .p (.mv (.tmp 10)), none⟩])
 (.cond (.tmp 26)
 (.reg [⟨some 27, .p (.mv (.tmp 8)), none⟩,
  ⟨some 28, .p (.mv (.tmp 9)), none⟩,
  ⟨some 29, .p (.mv (.tmp 9)), none⟩,
  ⟨some 30, .p (.faddr 5 (.tmp 6)), none⟩,
  ⟨some 31, .p (.iadA 8 1 (.tmp 30) (.tmp 29)), none⟩,
  ⟨some 32, .r (.ld (.tmp 31)), none⟩,
  ⟨some 33, .p (.build [.int .i64 0, .int .i64 0] [(0, 1, (.tmp 28)), (1, 1, (.tmp 32))]), none⟩,
  ⟨some 34, .a (.mkSl 45 [.int .i64 0, .int .i64 0] 1 [(0, 2, (.tmp 33))]), none⟩,
  ⟨some 35, .w (.app 45 2 16 (.tmp 27) (.tmp 34)), none⟩,
  ⟨some 8, .p (.mv (.tmp 35)), none⟩])
 .skip))))
 (.reg [⟨some 36, .p (.bin .add (.tmp 22) (.const (.int .i64 1))), none⟩,
  ⟨some 22, .p (.mv (.tmp 36)), none⟩])))))))
 (.seq (.reg [⟨some 37, .p (.mv (.tmp 8)), none⟩,
  ⟨some 4, .p (.mv (.tmp 37)), none⟩,
  ⟨some 5, .p (.mv (.const (.int .i64 0))), none⟩])
 .ret))))))⟩
/- (*agonic/logbook.Book).Run -/
def c28 : IFunc := ⟨2, [.cell 4, .cell 5],
(.seq (.reg [⟨some 2, .a (.box 24 (.tmp 0)), none⟩,
  ⟨some 4, .a (.alloc 3 [.int .i64 0]), none⟩,
  ⟨some 5, .a (.alloc 28 [.int .i64 0]), none⟩])
 (.seqK [1, 2, 4, 5] (.block 0 (.seq (.reg [⟨some 9, .r (.ld (.tmp 2)), none⟩,
  ⟨some 10, .w (.call (.func 51) [(.tmp 9)]), none⟩,
  ⟨some 8, .p (.mv (.tmp 10)), none⟩])
 (.cond (.tmp 8)
 (.seq (.reg [⟨none, .w (.st 1 (.tmp 4) (.const (.int .i64 0))), none⟩,
  ⟨none, .w (.st 1 (.tmp 5) (.const (.int .i64 11))), none⟩])
 .ret)
 (.seq (.reg [⟨some 12, .p (.mv (.tmp 1)), none⟩,
  ⟨some 13, .p (.lenV false (.tmp 12)), none⟩,
  ⟨some 14, .p (.bin .gtr (.tmp 13) (.const (.int .i64 16000))), none⟩,
  ⟨some 11, .p (.mv (.tmp 14)), none⟩])
 (.cond (.tmp 11)
 (.seq (.reg [⟨none, .w (.st 1 (.tmp 4) (.const (.int .i64 0))), none⟩,
  ⟨none, .w (.st 1 (.tmp 5) (.const (.int .i64 20))), none⟩])
 .ret)
 (.seq (.reg [⟨some 16, .p (.mv (.tmp 1)), none⟩,
  ⟨some 17, .p (.bin .neq (.tmp 16) (.const (.string ⟨#[]⟩))), none⟩,
  ⟨some 18, .p (.mv (.tmp 17)), none⟩,
  ⟨some 19, .p (.mv (.tmp 1)), some (18, true)⟩,
  ⟨some 20, .w (.call (.func 63) [(.tmp 19), (.const (.string ⟨#[10]⟩))]), some (18, true)⟩,
  ⟨some 21, .p (.un .not (.tmp 20)), some (18, true)⟩,
  ⟨some 22, .p (.pick (.tmp 18) (.tmp 21) (.const (.bool false))), none⟩,
  ⟨some 15, .p (.mv (.tmp 22)), none⟩])
 (.cond (.tmp 15)
 (.seq (.reg [⟨none, .w (.st 1 (.tmp 4) (.const (.int .i64 0))), none⟩,
  ⟨none, .w (.st 1 (.tmp 5) (.const (.int .i64 19))), none⟩])
 .ret)
 .skip)))))))
 (.seqK [4, 5] (.seq (.reg [⟨some 23, .p (.mv (.tmp 1)), none⟩,
  ⟨some 24, .w (.call (.func 64) [(.tmp 23)]), none⟩])
 (.block 1 (.rangeF (.tmp 24) [25] (.reg [⟨some 6, .p (.mv (.tmp 25)), none⟩]) (.block 2 (.seqK [4] (.seq (.regD [(⟨some 26, .r (.ld (.tmp 2)), none⟩, [2]),
  (⟨some 27, .p (.mv (.tmp 6)), none⟩, [6]),
  (⟨some 28, .w (.call (.func 65) [(.tmp 27), (.const (.string ⟨#[10]⟩))]), none⟩, [27]),
  (⟨some 29, .w (.call (.func 16) [(.tmp 26), (.tmp 28)]), none⟩, [26, 28]),
  (⟨some 7, .p (.mv (.tmp 29)), none⟩, [29])] [(0, [2])])
 (.seq (.reg [⟨some 30, .p (.mv (.tmp 7)), none⟩,
  ⟨some 31, .p (.bin .neq (.tmp 30) (.const (.int .i64 0))), none⟩])
 (.cond (.tmp 31)
 (.seq (.reg [⟨some 32, .r (.ld (.tmp 4)), none⟩,
  ⟨some 33, .p (.mv (.tmp 7)), none⟩,
  ⟨none, .w (.st 1 (.tmp 4) (.tmp 32)), none⟩,
  ⟨none, .w (.st 1 (.tmp 5) (.tmp 33)), none⟩])
 .ret)
 .skip)))
 (.reg [⟨some 34, .r (.ld (.tmp 4)), none⟩,
  ⟨some 35, .p (.bin .add (.tmp 34) (.const (.int .i64 1))), none⟩,
  ⟨none, .w (.st 1 (.tmp 4) (.tmp 35)), none⟩]))))))
 (.seq (.reg [⟨some 36, .r (.ld (.tmp 4)), none⟩,
  ⟨none, .w (.st 1 (.tmp 4) (.tmp 36)), none⟩,
  ⟨none, .w (.st 1 (.tmp 5) (.const (.int .i64 0))), none⟩])
 .ret))))⟩
/- (*agonic/logbook.Book).Restore -/
def c29 : IFunc := ⟨1, [.tmp 2],
(.seq (.reg [⟨some 1, .a (.box 24 (.tmp 0)), none⟩,
  ⟨some 2, .p (.mv (.const (.slice none 0 0))), none⟩])
 (.seq (.reg [⟨some 3, .a (.alloc 22 [.slice none 0 0]), none⟩])
 (.seqK [1, 2, 3] (.seq (.reg [⟨some 8, .r (.ld (.tmp 1)), none⟩,
  ⟨some 9, .w (.call (.func 51) [(.tmp 8)]), none⟩])
 (.cond (.tmp 9)
 (.seq (.reg [⟨some 2, .p (.mv (.const (.slice none 0 0))), none⟩])
 .ret)
 .skip))
 (.seqK [3] (.seq (.reg [⟨some 10, .r (.ld (.tmp 1)), none⟩,
  ⟨some 11, .p (.nilc (.tmp 10)), none⟩,
  ⟨some 12, .p (.faddr 0 (.tmp 11)), none⟩,
  ⟨some 13, .r (.ld (.tmp 12)), none⟩,
  ⟨some 14, .w (.call (.func 66) [(.tmp 13)]), none⟩])
 (.block 0 (.rangeF (.tmp 14) [15, 16] (.seq (.reg [⟨some 4, .p (.mv (.tmp 15)), none⟩])
 (.reg [⟨some 5, .a (.alloc 141 [.int .i64 0, .int .i64 0]), none⟩,
  ⟨none, .w (.st 2 (.tmp 5) (.tmp 16)), none⟩])) (.block 1 (.seq (.regD [(⟨some 17, .r (.ld (.tmp 1)), none⟩, [1]),
  (⟨some 18, .p (.nilc (.tmp 17)), none⟩, [17]),
  (⟨some 19, .p (.faddr 0 (.tmp 18)), none⟩, [18]),
  (⟨some 20, .r (.ld (.tmp 19)), none⟩, [19]),
  (⟨some 21, .p (.nilc (.tmp 20)), none⟩, [20]),
  (⟨some 22, .p (.faddr 0 (.tmp 21)), none⟩, [21]),
  (⟨some 23, .r (.ld (.tmp 22)), none⟩, [22]),
  (⟨some 24, .p (.iadA 2 1 (.tmp 5) (.const (.int .i64 0))), none⟩, [5]),
  (⟨some 25, .r (.ld (.tmp 24)), none⟩, [24]),
  (⟨some 26, .p (.iadS 21 (.tmp 23) (.tmp 25)), none⟩, [23, 25]),
  (⟨some 27, .r (.ldN 21 (.tmp 26)), none⟩, [26]),
  (⟨some 28, .r (.ld (.tmp 1)), none⟩, [1]),
  (⟨some 29, .p (.nilc (.tmp 28)), none⟩, [28]),
  (⟨some 30, .p (.faddr 0 (.tmp 29)), none⟩, [29]),
  (⟨some 31, .r (.ld (.tmp 30)), none⟩, [30]),
  (⟨some 32, .p (.nilc (.tmp 31)), none⟩, [31]),
  (⟨some 33, .p (.faddr 0 (.tmp 32)), none⟩, [32]),
  (⟨some 34, .r (.ld (.tmp 33)), none⟩, [33]),
  (⟨some 35, .p (.iadA 2 1 (.tmp 5) (.const (.int .i64 1))), none⟩, [5]),
  (⟨some 36, .r (.ld (.tmp 35)), none⟩, [35]),
  (⟨some 37, .p (.iadS 21 (.tmp 34) (.tmp 36)), none⟩, [34, 36]),
  (⟨some 38, .r (.ldN 21 (.tmp 37)), none⟩, [37]),
  (⟨some 6, .a (.alloc 120 [.string ⟨#[]⟩, .int .i64 0, .int .i64 0, .int .i64 0, .int .i64 0, .int .i64 0, .int .i64 0, .int .i64 0, .int .i64 0, .int .i64 0, .int .i64 0, .int .i64 0, .int .i64 0, .bool false, .bool false, .bool false, .bool false, .bool false, .bool false, .bool false, .bool false]), none⟩, []),
  (⟨some 7, .a (.alloc 120 [.string ⟨#[]⟩, .int .i64 0, .int .i64 0, .int .i64 0, .int .i64 0, .int .i64 0, .int .i64 0, .int .i64 0, .int .i64 0, .int .i64 0, .int .i64 0, .int .i64 0, .int .i64 0, .bool false, .bool false, .bool false, .bool false, .bool false, .bool false, .bool false, .bool false]), none⟩, []),
  (⟨none, .w (.st 21 (.tmp 6) (.tmp 27)), none⟩, [6, 27]),
  (⟨none, .w (.st 21 (.tmp 7) (.tmp 38)), none⟩, [7, 38])] [(11, [24]), (14, [24]), (17, [24]), (19, [24]), (21, [24])])
 (.regD [(⟨some 39, .r (.ld (.tmp 3)), none⟩, [3]),
  (⟨some 40, .p (.faddr 0 (.tmp 6)), none⟩, [6]),
  (⟨some 41, .r (.ld (.tmp 40)), none⟩, [40]),
  (⟨some 42, .p (.faddr 0 (.tmp 7)), none⟩, [7]),
  (⟨some 43, .r (.ld (.tmp 42)), none⟩, [42]),
  (⟨some 44, .r (.ld (.global 0)), none⟩, []),
  (⟨some 45, .p (.mv (.tmp 4)), none⟩, [4]),
  (⟨some 46, .p (.iadS 1 (.tmp 44) (.tmp 45)), none⟩, [44, 45]),
  (⟨some 47, .r (.ld (.tmp 46)), none⟩, [46]),
  (⟨some 48, .a (.mkSl 9 [.string ⟨#[]⟩] 4 [(0, 1, (.const (.string ⟨#[115, 119, 97, 112]⟩))), (1, 1, (.tmp 41)), (2, 1, (.tmp 43)), (3, 1, (.tmp 47))]), none⟩, [41, 43, 47]),
  (⟨some 49, .w (.call (.func 67) [(.tmp 48), (.const (.string ⟨#[32]⟩))]), none⟩, [48]),
  (⟨some 50, .a (.mkSl 9 [.string ⟨#[]⟩] 1 [(0, 1, (.tmp 49))]), none⟩, [49]),
  (⟨some 51, .w (.app 9 1 16 (.tmp 39) (.tmp 50)), none⟩, [39, 50]),
  (⟨none, .w (.st 1 (.tmp 3) (.tmp 51)), none⟩, [3, 51])] [(0, [10])]))))))
 (.seq (.reg [⟨some 52, .r (.ld (.tmp 3)), none⟩,
  ⟨some 2, .p (.mv (.tmp 52)), none⟩])
 .ret)))))⟩
/- (*agonic/logbook.Book).Distance -/
def c30 : IFunc := ⟨1, [.tmp 2],
(.seq (.reg [⟨some 2, .p (.mv (.const (.int .i64 0))), none⟩])
 (.seq (.reg [⟨some 3, .a (.alloc 3 [.int .i64 0]), none⟩,
  ⟨none, .w (.st 1 (.tmp 3) (.const (.int .i64 0))), none⟩])
 (.seqK [3] (.seq (.reg [⟨some 4, .p (.mv (.tmp 0)), none⟩,
  ⟨some 5, .w (.call (.func 51) [(.tmp 4)]), none⟩,
  ⟨some 6, .p (.un .not (.tmp 5)), none⟩])
 (.cond (.tmp 6)
 (.seq (.reg [⟨some 7, .p (.mv (.tmp 0)), none⟩,
  ⟨some 8, .p (.nilc (.tmp 7)), none⟩,
  ⟨some 9, .p (.faddr 0 (.tmp 8)), none⟩,
  ⟨some 10, .r (.ld (.tmp 9)), none⟩,
  ⟨some 11, .w (.call (.func 66) [(.tmp 10)]), none⟩])
 (.block 0 (.rangeF (.tmp 11) [12, 13] .skip (.block 1 (.reg [⟨some 14, .r (.ld (.tmp 3)), none⟩,
  ⟨some 15, .p (.bin .add (.tmp 14) (.const (.int .i64 1))), none⟩,
  ⟨none, .w (.st 1 (.tmp 3) (.tmp 15)), none⟩])))))
 .skip))
 (.seq (.reg [⟨some 16, .r (.ld (.tmp 3)), none⟩,
  ⟨some 2, .p (.mv (.tmp 16)), none⟩])
 .ret))))⟩
/- (*agonic/logbook.Book).Compasses -/
def c33 : IFunc := ⟨1, [.tmp 2],
(.seq (.reg [⟨some 2, .p (.mv (.const (.slice none 0 0))), none⟩])
 (.seqK [0] (.seq (.reg [⟨some 6, .p (.mv (.tmp 0)), none⟩,
  ⟨some 7, .w (.call (.func 51) [(.tmp 6)]), none⟩])
 (.cond (.tmp 7)
 (.seq (.reg [⟨some 2, .p (.mv (.const (.slice none 0 0))), none⟩])
 .ret)
 .skip))
 (.seq (.reg [⟨some 3, .p (.mv (.const (.slice none 0 0))), none⟩])
 (.seqK [3] (.seq (.reg [⟨some 8, .p (.mv (.tmp 0)), none⟩,
  ⟨some 9, .p (.nilc (.tmp 8)), none⟩,
  ⟨some 10, .p (.faddr 0 (.tmp 9)), none⟩,
  ⟨some 11, .r (.ld (.tmp 10)), none⟩,
  ⟨some 12, .p (.nilc (.tmp 11)), none⟩,
  ⟨some 13, .p (.faddr 0 (.tmp 12)), none⟩,
  ⟨some 14, .r (.ld (.tmp 13)), none⟩,
  ⟨some 15, .p (.lenV true (.tmp 14)), none⟩,
  ⟨some 16, .p (.mv (.const (.int .i64 0))), none⟩])
 (.block 0 (.loop [3, 14, 15, 16] (.seq (.reg [⟨some 17, .p (.bin .lss (.tmp 16) (.tmp 15)), none⟩])
 (.seqK [3, 14, 15, 16] (.cond (.tmp 17)
 .skip
 (.exit 0))
 (.seqK [3, 14, 15, 16] (.block 1 (.seq (.reg [⟨some 18, .p (.iadS 21 (.tmp 14) (.tmp 16)), none⟩,
  ⟨some 19, .r (.ldN 21 (.tmp 18)), none⟩,
  ⟨some 5, .a (.alloc 120 [.string ⟨#[]⟩, .int .i64 0, .int .i64 0, .int .i64 0, .int .i64 0, .int .i64 0, .int .i64 0, .int .i64 0, .int .i64 0, .int .i64 0, .int .i64 0, .int .i64 0, .int .i64 0, .bool false, .bool false, .bool false, .bool false, .bool false, .bool false, .bool false, .bool false]), none⟩,
  ⟨none, .w (.st 21 (.tmp 5) (.tmp 19)), none⟩])
 (.reg [⟨some 20, .p (.mv (.tmp 3)), none⟩,
  ⟨some 21, .p (.faddr 0 (.tmp 5)), none⟩,
  ⟨some 22, .r (.ld (.tmp 21)), none⟩,
  ⟨some 23, .a (.mkSl 9 [.string ⟨#[]⟩] 1 [(0, 1, (.tmp 22))]), none⟩,
  ⟨some 24, .w (.app 9 1 16 (.tmp 20) (.tmp 23)), none⟩,
  ⟨some 3, .p (.mv (.tmp 24)), none⟩])))
 (.reg [⟨some 25, .p (.bin .add (.tmp 16) (.const (.int .i64 1))), none⟩,
  ⟨some 16, .p (.mv (.tmp 25)), none⟩])))))))
 (.seq (.reg [⟨some 26, .p (.mv (.tmp 3)), none⟩,
  ⟨some 2, .p (.mv (.tmp 26)), none⟩])
 .ret)))))⟩
/- (*agonic/logbook.Book).Lines -/
def c41 : IFunc := ⟨1, [.tmp 2],
(.seq (.reg [⟨some 2, .p (.mv (.const (.slice none 0 0))), none⟩])
 (.seqK [0] (.seq (.reg [⟨some 3, .p (.mv (.tmp 0)), none⟩,
  ⟨some 4, .w (.call (.func 51) [(.tmp 3)]), none⟩])
 (.cond (.tmp 4)
 (.seq (.reg [⟨some 2, .p (.mv (.const (.slice none 0 0))), none⟩])
 .ret)
 .skip))
 (.seq (.reg [⟨some 5, .p (.mv (.tmp 0)), none⟩,
  ⟨some 6, .p (.nilc (.tmp 5)), none⟩,
  ⟨some 7, .p (.faddr 1 (.tmp 6)), none⟩,
  ⟨some 8, .r (.ld (.tmp 7)), none⟩,
  ⟨some 9, .w (.call (.func 72) [(.tmp 8)]), none⟩,
  ⟨some 2, .p (.mv (.tmp 9)), none⟩])
 .ret)))⟩
/- (*agonic/logbook.Book).File -/
def c42 : IFunc := ⟨1, [.tmp 2],
(.seq (.reg [⟨some 2, .p (.mv (.const (.string ⟨#[]⟩))), none⟩])
 (.seqK [0] (.seq (.reg [⟨some 5, .p (.mv (.tmp 0)), none⟩,
  ⟨some 6, .w (.call (.func 51) [(.tmp 5)]), none⟩])
 (.cond (.tmp 6)
 (.seq (.reg [⟨some 2, .p (.mv (.const (.string ⟨#[]⟩))), none⟩])
 .ret)
 .skip))
 (.seq (.regD [(⟨some 7, .p (.mv (.tmp 0)), none⟩, [0]),
  (⟨some 8, .p (.nilc (.tmp 7)), none⟩, [7]),
  (⟨some 9, .p (.faddr 1 (.tmp 8)), none⟩, [8]),
  (⟨some 10, .r (.ld (.tmp 9)), none⟩, [9]),
  (⟨some 11, .p (.lenV true (.tmp 10)), none⟩, [10]),
  (⟨some 12, .w (.call (.func 45) [(.tmp 11)]), none⟩, [11]),
  (⟨some 13, .p (.bin .add (.const (.string ⟨#[99, 111, 109, 112, 97, 115, 115, 101, 115, 32]⟩)) (.tmp 12)), none⟩, [12]),
  (⟨some 14, .a (.mkSl 9 [.string ⟨#[]⟩] 1 [(0, 1, (.tmp 13))]), none⟩, [13]),
  (⟨some 15, .p (.mv (.tmp 0)), none⟩, [0]),
  (⟨some 16, .p (.nilc (.tmp 15)), none⟩, [15]),
  (⟨some 17, .p (.faddr 1 (.tmp 16)), none⟩, [16]),
  (⟨some 18, .r (.ld (.tmp 17)), none⟩, [17]),
  (⟨some 19, .a (.mkSl 22 [.slice none 0 0] 2 [(0, 1, (.tmp 14)), (1, 1, (.tmp 18))]), none⟩, [14, 18]),
  (⟨some 20, .w (.call (.func 73) [(.tmp 19)]), none⟩, [19]),
  (⟨some 3, .p (.mv (.tmp 20)), none⟩, [20])] [(11, [5])])
 (.seq (.reg [⟨some 21, .p (.mv (.tmp 3)), none⟩,
  ⟨some 22, .w (.call (.func 67) [(.tmp 21), (.const (.string ⟨#[10]⟩))]), none⟩,
  ⟨some 23, .p (.bin .add (.tmp 22) (.const (.string ⟨#[10]⟩))), none⟩,
  ⟨some 4, .p (.mv (.tmp 23)), none⟩])
 (.seq (.reg [⟨some 24, .p (.mv (.tmp 4)), none⟩,
  ⟨some 25, .p (.bin .add (.tmp 24) (.const (.string ⟨#[115, 117, 109, 32]⟩))), none⟩,
  ⟨some 26, .p (.mv (.tmp 4)), none⟩,
  ⟨some 27, .w (.call (.func 74) [(.tmp 26)]), none⟩,
  ⟨some 28, .w (.call (.func 45) [(.tmp 27)]), none⟩,
  ⟨some 29, .p (.bin .add (.tmp 25) (.tmp 28)), none⟩,
  ⟨some 30, .p (.bin .add (.tmp 29) (.const (.string ⟨#[10]⟩))), none⟩,
  ⟨some 2, .p (.mv (.tmp 30)), none⟩])
 .ret)))))⟩
/- (*agonic/logbook.Book).none -/
def c51 : IFunc := ⟨1, [.tmp 2],
(.seq (.reg [⟨some 2, .p (.mv (.const (.bool false))), none⟩])
 (.seq (.reg [⟨some 3, .p (.mv (.tmp 0)), none⟩,
  ⟨some 4, .p (.eqs .p 24 false (.tmp 3) (.const (.pointer none))), none⟩,
  ⟨some 5, .p (.mv (.tmp 4)), none⟩,
  ⟨some 6, .p (.mv (.tmp 0)), some (5, false)⟩,
  ⟨some 7, .p (.nilc (.tmp 6)), some (5, false)⟩,
  ⟨some 8, .p (.faddr 0 (.tmp 7)), some (5, false)⟩,
  ⟨some 9, .r (.ld (.tmp 8)), some (5, false)⟩,
  ⟨some 10, .p (.eqs .p 65 false (.tmp 9) (.const (.pointer none))), some (5, false)⟩,
  ⟨some 11, .p (.pick (.tmp 5) (.const (.bool true)) (.tmp 10)), none⟩,
  ⟨some 2, .p (.mv (.tmp 11)), none⟩])
 .ret))⟩
/- agonic/logbook.read -/
def c52 : IFunc := ⟨1, [.tmp 2, .tmp 3],
(.seq (.reg [⟨some 2, .p (.mv (.const (.nilIface))), none⟩,
  ⟨some 3, .p (.mv (.const (.int .i64 0))), none⟩])
 (.seqK [0] (.seq (.reg [⟨some 8, .p (.mv (.tmp 0)), none⟩,
  ⟨some 9, .p (.lenV false (.tmp 8)), none⟩,
  ⟨some 10, .p (.bin .gtr (.tmp 9) (.const (.int .i64 60))), none⟩])
 (.cond (.tmp 10)
 (.seq (.reg [⟨some 2, .p (.mv (.const (.nilIface))), none⟩,
  ⟨some 3, .p (.mv (.const (.int .i64 20))), none⟩])
 .ret)
 .skip))
 (.seq (.reg [⟨some 12, .p (.mv (.tmp 0)), none⟩,
  ⟨some 13, .w (.call (.func 83) [(.tmp 12)]), none⟩,
  ⟨some 11, .p (.mv (.tmp 13)), none⟩,
  ⟨some 14, .p (.ext (.tmp 11) 0), none⟩,
  ⟨some 15, .p (.ext (.tmp 11) 1), none⟩,
  ⟨some 4, .a (.alloc 22 [.slice none 0 0]), none⟩,
  ⟨none, .w (.st 1 (.tmp 4) (.tmp 14)), none⟩,
  ⟨some 5, .p (.mv (.tmp 15)), none⟩])
 (.seqK [4] (.seq (.reg [⟨some 16, .p (.mv (.tmp 5)), none⟩,
  ⟨some 17, .p (.un .not (.tmp 16)), none⟩])
 (.cond (.tmp 17)
 (.seq (.reg [⟨some 2, .p (.mv (.const (.nilIface))), none⟩,
  ⟨some 3, .p (.mv (.const (.int .i64 9))), none⟩])
 .ret)
 .skip))
 (.seq (.reg [⟨some 19, .r (.ld (.tmp 4)), none⟩,
  ⟨some 20, .p (.iadS 1 (.tmp 19) (.const (.int .i64 0))), none⟩,
  ⟨some 21, .r (.ld (.tmp 20)), none⟩,
  ⟨some 22, .w (.call (.func 87) [(.tmp 21)]), none⟩,
  ⟨some 18, .p (.mv (.tmp 22)), none⟩,
  ⟨some 23, .p (.ext (.tmp 18) 0), none⟩,
  ⟨some 24, .p (.ext (.tmp 18) 1), none⟩,
  ⟨some 6, .a (.alloc 164 [.string ⟨#[]⟩, .nilFunc]), none⟩,
  ⟨none, .w (.st 2 (.tmp 6) (.tmp 23)), none⟩,
  ⟨some 5, .p (.mv (.tmp 24)), none⟩])
 (.seqK [4, 6] (.seq (.reg [⟨some 25, .p (.mv (.tmp 5)), none⟩,
  ⟨some 26, .p (.un .not (.tmp 25)), none⟩])
 (.cond (.tmp 26)
 (.seq (.reg [⟨some 2, .p (.mv (.const (.nilIface))), none⟩,
  ⟨some 3, .p (.mv (.const (.int .i64 10))), none⟩])
 .ret)
 .skip))
 (.seqK [4, 6] (.seq (.reg [⟨some 27, .r (.ld (.tmp 4)), none⟩,
  ⟨some 28, .p (.lenV true (.tmp 27)), none⟩,
  ⟨some 29, .p (.faddr 0 (.tmp 6)), none⟩,
  ⟨some 30, .r (.ld (.tmp 29)), none⟩,
  ⟨some 31, .p (.lenV false (.tmp 30)), none⟩,
  ⟨some 32, .p (.bin .add (.tmp 31) (.const (.int .i64 1))), none⟩,
  ⟨some 33, .p (.bin .neq (.tmp 28) (.tmp 32)), none⟩])
 (.cond (.tmp 33)
 (.seq (.reg [⟨some 2, .p (.mv (.const (.nilIface))), none⟩,
  ⟨some 3, .p (.mv (.const (.int .i64 9))), none⟩])
 .ret)
 .skip))
 (.seq (.reg [⟨some 34, .p (.mkF (.func 88) [] [(.tmp 6), (.tmp 4)]), none⟩,
  ⟨some 7, .p (.mv (.tmp 34)), none⟩])
 (.seqK [4, 6] (.block 0 (.seq (.reg [⟨some 36, .p (.mv (.tmp 7)), none⟩,
  ⟨some 37, .w (.call (.tmp 36) [(.const (.int .i32 68)), (.func 78)]), none⟩,
  ⟨some 35, .p (.mv (.tmp 37)), none⟩])
 (.cond (.tmp 35)
 (.seq (.reg [⟨some 2, .p (.mv (.const (.nilIface))), none⟩,
  ⟨some 3, .p (.mv (.const (.int .i64 9))), none⟩])
 .ret)
 (.seq (.reg [⟨some 39, .p (.mv (.tmp 7)), none⟩,
  ⟨some 40, .w (.call (.tmp 39) [(.const (.int .i32 78)), (.func 82)]), none⟩,
  ⟨some 38, .p (.mv (.tmp 40)), none⟩])
 (.cond (.tmp 38)
 (.seq (.reg [⟨some 2, .p (.mv (.const (.nilIface))), none⟩,
  ⟨some 3, .p (.mv (.const (.int .i64 8))), none⟩])
 .ret)
 (.seq (.reg [⟨some 42, .p (.mv (.tmp 7)), none⟩,
  ⟨some 43, .w (.call (.tmp 42) [(.const (.int .i32 75)), (.func 89)]), none⟩,
  ⟨some 41, .p (.mv (.tmp 43)), none⟩])
 (.cond (.tmp 41)
 (.seq (.reg [⟨some 2, .p (.mv (.const (.nilIface))), none⟩,
  ⟨some 3, .p (.mv (.const (.int .i64 10))), none⟩])
 .ret)
 (.seq (.reg [⟨some 45, .p (.faddr 0 (.tmp 6)), none⟩,
  ⟨some 46, .r (.ld (.tmp 45)), none⟩,
  ⟨some 47, .p (.bin .eql (.tmp 46) (.const (.string ⟨#[78, 68, 68]⟩))), none⟩,
  ⟨some 48, .p (.mv (.tmp 47)), none⟩,
  ⟨some 49, .r (.ld (.tmp 4)), some (48, true)⟩,
  ⟨some 50, .p (.iadS 1 (.tmp 49) (.const (.int .i64 2))), some (48, true)⟩,
  ⟨some 51, .r (.ld (.tmp 50)), some (48, true)⟩,
  ⟨some 52, .w (.call (.func 79) [(.tmp 51), (.const (.int .i64 0)), (.const (.int .i64 7))]), some (48, true)⟩,
  ⟨some 53, .p (.un .not (.tmp 52)), some (48, true)⟩,
  ⟨some 54, .p (.mv (.tmp 53)), some (48, true)⟩,
  ⟨some 55, .r (.ld (.tmp 4)), some (54, false)⟩,
  ⟨some 56, .p (.iadS 1 (.tmp 55) (.const (.int .i64 3))), some (54, false)⟩,
  ⟨some 57, .r (.ld (.tmp 56)), some (54, false)⟩,
  ⟨some 58, .w (.call (.func 79) [(.tmp 57), (.const (.int .i64 (-300))), (.const (.int .i64 300))]), some (54, false)⟩,
  ⟨some 59, .p (.un .not (.tmp 58)), some (54, false)⟩,
  ⟨some 60, .p (.pick (.tmp 54) (.const (.bool true)) (.tmp 59)), some (48, true)⟩,
  ⟨some 61, .p (.pick (.tmp 48) (.tmp 60) (.const (.bool false))), none⟩,
  ⟨some 44, .p (.mv (.tmp 61)), none⟩])
 (.cond (.tmp 44)
 (.seq (.reg [⟨some 2, .p (.mv (.const (.nilIface))), none⟩,
  ⟨some 3, .p (.mv (.const (.int .i64 1))), none⟩])
 .ret)
 .skip)))))))))
 (.seq (.reg [⟨some 62, .p (.faddr 1 (.tmp 6)), none⟩,
  ⟨some 63, .r (.ld (.tmp 62)), none⟩,
  ⟨some 64, .r (.ld (.tmp 4)), none⟩,
  ⟨some 65, .w (.call (.tmp 63) [(.tmp 64)]), none⟩,
  ⟨some 2, .p (.mv (.tmp 65)), none⟩,
  ⟨some 3, .p (.mv (.const (.int .i64 0))), none⟩])
 .ret))))))))))⟩
/- (*agonic/logbook.Book).undo -/
def c53 : IFunc := ⟨1, [.tmp 2],
(.seq (.reg [⟨some 2, .p (.mv (.const (.int .i64 0))), none⟩])
 (.seq (.reg [⟨some 4, .p (.mv (.tmp 0)), none⟩,
  ⟨some 5, .p (.nilc (.tmp 4)), none⟩,
  ⟨some 6, .p (.faddr 1 (.tmp 5)), none⟩,
  ⟨some 7, .r (.ld (.tmp 6)), none⟩,
  ⟨some 8, .p (.lenV true (.tmp 7)), none⟩,
  ⟨some 9, .p (.bin .sub (.tmp 8) (.const (.int .i64 1))), none⟩,
  ⟨some 3, .p (.mv (.tmp 9)), none⟩])
 (.seqK [0, 3] (.seq (.reg [⟨some 10, .p (.mv (.tmp 3)), none⟩,
  ⟨some 11, .p (.bin .lss (.tmp 10) (.const (.int .i64 0))), none⟩])
 (.cond (.tmp 11)
 (.seq (.reg [⟨some 2, .p (.mv (.const (.int .i64 2))), none⟩])
 .ret)
 .skip))
 (.seq (.regD [(⟨some 12, .p (.mv (.tmp 0)), none⟩, [0]),
  (⟨some 13, .p (.nilc (.tmp 12)), none⟩, [12]),
  (⟨some 14, .p (.faddr 2 (.tmp 13)), none⟩, [13]),
  (⟨some 15, .r (.ld (.tmp 14)), none⟩, [14]),
  (⟨some 16, .p (.mv (.tmp 3)), none⟩, [3]),
  (⟨some 17, .p (.iadS 1 (.tmp 15) (.tmp 16)), none⟩, [15, 16]),
  (⟨some 18, .r (.ld (.tmp 17)), none⟩, [17]),
  (⟨some 19, .p (.mv (.tmp 0)), none⟩, [0]),
  (⟨some 20, .p (.nilc (.tmp 19)), none⟩, [19]),
  (⟨some 21, .p (.faddr 0 (.tmp 20)), none⟩, [20]),
  (⟨some 22, .r (.ld (.tmp 21)), none⟩, [21]),
  (⟨some 23, .p (.nilc (.tmp 18)), none⟩, [18]),
  (⟨some 24, .p (.mv (.tmp 18)), none⟩, [18]),
  (⟨some 25, .w (.inv (.tmp 24) "agonic/logbook.revert" [(.tmp 22)]), none⟩, [22, 24])] [])
 (.seq (.regD [(⟨some 26, .p (.mv (.tmp 0)), none⟩, [0]),
  (⟨some 27, .p (.mv (.tmp 0)), none⟩, [0]),
  (⟨some 28, .p (.mv (.tmp 0)), none⟩, [0]),
  (⟨some 29, .p (.nilc (.tmp 28)), none⟩, [28]),
  (⟨some 30, .p (.faddr 1 (.tmp 29)), none⟩, [29]),
  (⟨some 31, .r (.ld (.tmp 30)), none⟩, [30]),
  (⟨some 32, .p (.mv (.tmp 3)), none⟩, [3]),
  (⟨some 33, .r (.slSl 9 1 (.tmp 31) none (some (.tmp 32)) none), none⟩, [31, 32]),
  (⟨some 34, .p (.mv (.tmp 0)), none⟩, [0]),
  (⟨some 35, .p (.nilc (.tmp 34)), none⟩, [34]),
  (⟨some 36, .p (.faddr 2 (.tmp 35)), none⟩, [35]),
  (⟨some 37, .r (.ld (.tmp 36)), none⟩, [36]),
  (⟨some 38, .p (.mv (.tmp 3)), none⟩, [3]),
  (⟨some 39, .r (.slSl 99 1 (.tmp 37) none (some (.tmp 38)) none), none⟩, [37, 38]),
  (⟨some 40, .p (.nilc (.tmp 26)), none⟩, [26]),
  (⟨some 41, .p (.faddr 1 (.tmp 40)), none⟩, [40]),
  (⟨none, .w (.st 1 (.tmp 41) (.tmp 33)), none⟩, [33, 41]),
  (⟨some 42, .p (.nilc (.tmp 27)), none⟩, [27]),
  (⟨some 43, .p (.faddr 2 (.tmp 42)), none⟩, [42]),
  (⟨none, .w (.st 1 (.tmp 43) (.tmp 39)), none⟩, [39, 43])] [(13, [16])])
 (.seq (.reg [⟨some 2, .p (.mv (.const (.int .i64 0))), none⟩])
 .ret))))))⟩
/- (*agonic/logbook.repair).apply -/
def c57 : IFunc := ⟨2, [],
(.seq (.reg [⟨some 5, .p (.mv (.tmp 1)), none⟩,
  ⟨some 6, .p (.mv (.tmp 0)), none⟩,
  ⟨some 7, .p (.nilc (.tmp 6)), none⟩,
  ⟨some 8, .p (.faddr 0 (.tmp 7)), none⟩,
  ⟨some 9, .r (.ld (.tmp 8)), none⟩,
  ⟨some 10, .w (.call (.func 93) [(.tmp 5), (.tmp 9)]), none⟩,
  ⟨some 4, .p (.mv (.tmp 10)), none⟩])
 (.seq (.regD [(⟨some 11, .p (.mv (.tmp 0)), none⟩, [0]),
  (⟨some 12, .p (.mv (.tmp 1)), none⟩, [1]),
  (⟨some 13, .p (.nilc (.tmp 12)), none⟩, [12]),
  (⟨some 14, .p (.faddr 0 (.tmp 13)), none⟩, [13]),
  (⟨some 15, .r (.ld (.tmp 14)), none⟩, [14]),
  (⟨some 16, .p (.mv (.tmp 4)), none⟩, [4]),
  (⟨some 17, .p (.mv (.tmp 0)), none⟩, [0]),
  (⟨some 18, .p (.nilc (.tmp 17)), none⟩, [17]),
  (⟨some 19, .p (.faddr 1 (.tmp 18)), none⟩, [18]),
  (⟨some 20, .r (.ld (.tmp 19)), none⟩, [19]),
  (⟨some 21, .p (.iadS 21 (.tmp 15) (.tmp 16)), none⟩, [15, 16]),
  (⟨some 22, .p (.faddr 1 (.tmp 21)), none⟩, [21]),
  (⟨some 23, .p (.iadA 4 1 (.tmp 22) (.tmp 20)), none⟩, [20, 22]),
  (⟨some 24, .r (.ld (.tmp 23)), none⟩, [23]),
  (⟨some 25, .p (.nilc (.tmp 11)), none⟩, [11]),
  (⟨some 26, .p (.faddr 2 (.tmp 25)), none⟩, [25]),
  (⟨none, .w (.st 1 (.tmp 26) (.tmp 24)), none⟩, [24, 26])] [])
 (.seq (.regD [(⟨some 27, .p (.mv (.tmp 1)), none⟩, [1]),
  (⟨some 28, .p (.nilc (.tmp 27)), none⟩, [27]),
  (⟨some 29, .p (.faddr 1 (.tmp 28)), none⟩, [28]),
  (⟨some 30, .r (.ld (.tmp 29)), none⟩, [29]),
  (⟨some 31, .p (.mv (.tmp 0)), none⟩, [0]),
  (⟨some 32, .p (.nilc (.tmp 31)), none⟩, [31]),
  (⟨some 33, .p (.faddr 2 (.tmp 32)), none⟩, [32]),
  (⟨some 34, .r (.ld (.tmp 33)), none⟩, [33]),
  (⟨some 35, .p (.iadS 2 (.tmp 30) (.tmp 34)), none⟩, [30, 34]),
  (⟨some 36, .p (.faddr 0 (.tmp 35)), none⟩, [35]),
  (⟨none, .w (.st 1 (.tmp 36) (.const (.int .i64 (-1)))), none⟩, [36])] [])
 (.regD [(⟨some 37, .p (.mv (.tmp 1)), none⟩, [1]),
  (⟨some 38, .p (.mv (.tmp 4)), none⟩, [4]),
  (⟨some 39, .p (.mv (.tmp 0)), none⟩, [0]),
  (⟨some 40, .p (.nilc (.tmp 39)), none⟩, [39]),
  (⟨some 41, .p (.faddr 1 (.tmp 40)), none⟩, [40]),
  (⟨some 42, .r (.ld (.tmp 41)), none⟩, [41]),
  (⟨some 43, .p (.mv (.tmp 1)), none⟩, [1]),
  (⟨some 44, .p (.nilc (.tmp 43)), none⟩, [43]),
  (⟨some 45, .p (.faddr 1 (.tmp 44)), none⟩, [44]),
  (⟨some 46, .r (.ld (.tmp 45)), none⟩, [45]),
  (⟨some 47, .p (.mv (.tmp 0)), none⟩, [0]),
  (⟨some 48, .p (.nilc (.tmp 47)), none⟩, [47]),
  (⟨some 49, .p (.faddr 2 (.tmp 48)), none⟩, [48]),
  (⟨some 50, .r (.ld (.tmp 49)), none⟩, [49]),
  (⟨some 51, .p (.iadS 2 (.tmp 46) (.tmp 50)), none⟩, [46, 50]),
  (⟨some 52, .p (.faddr 1 (.tmp 51)), none⟩, [51]),
  (⟨some 53, .r (.ld (.tmp 52)), none⟩, [52]),
  (⟨some 54, .w (.call (.func 94) [(.tmp 37), (.tmp 38), (.tmp 42), (.tmp 53)]), none⟩, [37, 38, 42, 53])] []))))⟩
/- (*agonic/logbook.Book).asked -/
def c60 : IFunc := ⟨2, [.cells 4 21, .tmp 5],
(.seq (.reg [⟨some 4, .a (.alloc 120 [.string ⟨#[]⟩, .int .i64 0, .int .i64 0, .int .i64 0, .int .i64 0, .int .i64 0, .int .i64 0, .int .i64 0, .int .i64 0, .int .i64 0, .int .i64 0, .int .i64 0, .int .i64 0, .bool false, .bool false, .bool false, .bool false, .bool false, .bool false, .bool false, .bool false]), none⟩,
  ⟨some 5, .p (.mv (.const (.int .i64 0))), none⟩])
 (.seqK [0, 1, 4] (.seq (.reg [⟨some 7, .p (.mv (.tmp 0)), none⟩,
  ⟨some 8, .w (.call (.func 51) [(.tmp 7)]), none⟩])
 (.cond (.tmp 8)
 (.seq (.reg [⟨some 9, .p (.build [.string ⟨#[]⟩, .int .i64 0, .int .i64 0, .int .i64 0, .int .i64 0, .int .i64 0, .int .i64 0, .int .i64 0, .int .i64 0, .int .i64 0, .int .i64 0, .int .i64 0, .int .i64 0, .bool false, .bool false, .bool false, .bool false, .bool false, .bool false, .bool false, .bool false] []), none⟩,
  ⟨none, .w (.st 21 (.tmp 4) (.tmp 9)), none⟩,
  ⟨some 5, .p (.mv (.const (.int .i64 11))), none⟩])
 .ret)
 .skip))
 (.seqK [0, 1, 4] (.seq (.reg [⟨some 10, .p (.mv (.tmp 1)), none⟩,
  ⟨some 11, .w (.call (.func 82) [(.tmp 10)]), none⟩,
  ⟨some 12, .p (.un .not (.tmp 11)), none⟩])
 (.cond (.tmp 12)
 (.seq (.reg [⟨some 13, .p (.build [.string ⟨#[]⟩, .int .i64 0, .int .i64 0, .int .i64 0, .int .i64 0, .int .i64 0, .int .i64 0, .int .i64 0, .int .i64 0, .int .i64 0, .int .i64 0, .int .i64 0, .int .i64 0, .bool false, .bool false, .bool false, .bool false, .bool false, .bool false, .bool false, .bool false] []), none⟩,
  ⟨none, .w (.st 21 (.tmp 4) (.tmp 13)), none⟩,
  ⟨some 5, .p (.mv (.const (.int .i64 8))), none⟩])
 .ret)
 .skip))
 (.seq (.reg [⟨some 14, .p (.mv (.tmp 0)), none⟩,
  ⟨some 15, .p (.nilc (.tmp 14)), none⟩,
  ⟨some 16, .p (.faddr 0 (.tmp 15)), none⟩,
  ⟨some 17, .r (.ld (.tmp 16)), none⟩,
  ⟨some 18, .p (.mv (.tmp 1)), none⟩,
  ⟨some 19, .w (.call (.func 93) [(.tmp 17), (.tmp 18)]), none⟩,
  ⟨some 6, .p (.mv (.tmp 19)), none⟩])
 (.seqK [0, 4, 6] (.seq (.reg [⟨some 20, .p (.mv (.tmp 6)), none⟩,
  ⟨some 21, .p (.bin .lss (.tmp 20) (.const (.int .i64 0))), none⟩])
 (.cond (.tmp 21)
 (.seq (.reg [⟨some 22, .p (.build [.string ⟨#[]⟩, .int .i64 0, .int .i64 0, .int .i64 0, .int .i64 0, .int .i64 0, .int .i64 0, .int .i64 0, .int .i64 0, .int .i64 0, .int .i64 0, .int .i64 0, .int .i64 0, .bool false, .bool false, .bool false, .bool false, .bool false, .bool false, .bool false, .bool false] []), none⟩,
  ⟨none, .w (.st 21 (.tmp 4) (.tmp 22)), none⟩,
  ⟨some 5, .p (.mv (.const (.int .i64 6))), none⟩])
 .ret)
 .skip))
 (.seq (.reg [⟨some 23, .p (.mv (.tmp 0)), none⟩,
  ⟨some 24, .p (.nilc (.tmp 23)), none⟩,
  ⟨some 25, .p (.faddr 0 (.tmp 24)), none⟩,
  ⟨some 26, .r (.ld (.tmp 25)), none⟩,
  ⟨some 27, .p (.nilc (.tmp 26)), none⟩,
  ⟨some 28, .p (.faddr 0 (.tmp 27)), none⟩,
  ⟨some 29, .r (.ld (.tmp 28)), none⟩,
  ⟨some 30, .p (.mv (.tmp 6)), none⟩,
  ⟨some 31, .p (.iadS 21 (.tmp 29) (.tmp 30)), none⟩,
  ⟨some 32, .r (.ldN 21 (.tmp 31)), none⟩,
  ⟨none, .w (.st 21 (.tmp 4) (.tmp 32)), none⟩,
  ⟨some 5, .p (.mv (.const (.int .i64 0))), none⟩])
 .ret))))))⟩
/- strings.HasSuffix -/
def c63 : IFunc := ⟨2, [.tmp 4],
(.seq (.reg [⟨some 4, .p (.mv (.const (.bool false))), none⟩])
 (.seq (.reg [⟨some 5, .p (.mv (.tmp 0)), none⟩,
  ⟨some 6, .p (.mv (.tmp 1)), none⟩,
  ⟨some 7, .w (.call (.func 95) [(.tmp 5), (.tmp 6)]), none⟩,
  ⟨some 4, .p (.mv (.tmp 7)), none⟩])
 .ret))⟩
/- strings.Lines -/
def c64 : IFunc := ⟨1, [.tmp 2],
(.seq (.reg [⟨some 1, .a (.box 9 (.tmp 0)), none⟩,
  ⟨some 2, .p (.mv (.const (.nilFunc))), none⟩])
 (.seq (.reg [⟨some 3, .p (.mkF (.func 96) [] [(.tmp 1)]), none⟩,
  ⟨some 2, .p (.mv (.tmp 3)), none⟩])
 .ret))⟩
/- strings.TrimSuffix -/
def c65 : IFunc := ⟨2, [.tmp 4],
(.seq (.reg [⟨some 4, .p (.mv (.const (.string ⟨#[]⟩))), none⟩])
 (.seq (.reg [⟨some 5, .p (.mv (.tmp 0)), none⟩,
  ⟨some 6, .p (.mv (.tmp 1)), none⟩,
  ⟨some 7, .w (.call (.func 98) [(.tmp 5), (.tmp 6)]), none⟩,
  ⟨some 4, .p (.mv (.tmp 7)), none⟩])
 .ret))⟩
/- (*agonic/logbook.office).swaps -/
def c66 : IFunc := ⟨1, [.tmp 2],
(.seq (.reg [⟨some 1, .a (.box 65 (.tmp 0)), none⟩,
  ⟨some 2, .p (.mv (.const (.nilFunc))), none⟩])
 (.seq (.reg [⟨some 3, .p (.mkF (.func 99) [] [(.tmp 1)]), none⟩,
  ⟨some 2, .p (.mv (.tmp 3)), none⟩])
 .ret))⟩
/- slices.Clone[[]string,string] -/
def c72 : IFunc := ⟨1, [.tmp 2],
(.seq (.reg [⟨some 2, .p (.mv (.const (.slice none 0 0))), none⟩])
 (.seqK [0] (.seq (.reg [⟨some 3, .p (.mv (.tmp 0)), none⟩,
  ⟨some 4, .p (.eqs .s 22 false (.tmp 3) (.const (.slice none 0 0))), none⟩])
 (.cond (.tmp 4)
 (.seq (.reg [⟨some 2, .p (.mv (.const (.slice none 0 0))), none⟩])
 .ret)
 .skip))
 (.seq (.reg [⟨some 5, .a (.mkSl 9 [.string ⟨#[]⟩] 0 []), none⟩,
  ⟨some 6, .p (.mv (.tmp 0)), none⟩,
  ⟨some 7, .w (.app 9 1 16 (.tmp 5) (.tmp 6)), none⟩,
  ⟨some 2, .p (.mv (.tmp 7)), none⟩])
 .ret)))⟩
/- slices.Concat[[]string,string] -/
def c73 : IFunc := ⟨1, [.tmp 2],
(.seq (.reg [⟨some 2, .p (.mv (.const (.slice none 0 0))), none⟩])
 (.seq (.reg [⟨some 3, .p (.mv (.const (.int .i64 0))), none⟩])
 (.seqK [0, 3] (.seq (.reg [⟨some 9, .p (.mv (.tmp 0)), none⟩,
  ⟨some 10, .p (.lenV true (.tmp 9)), none⟩,
  ⟨some 11, .p (.mv (.const (.int .i64 0))), none⟩])
 (.block 0 (.loop [0, 3, 9, 10, 11] (.seq (.reg [⟨some 12, .p (.bin .lss (.tmp 11) (.tmp 10)), none⟩])
 (.seqK [0, 3, 9, 10, 11] (.cond (.tmp 12)
 .skip
 (.exit 0))
 (.seqK [0, 3, 9, 10, 11] (.block 1 (.seq (.reg [⟨some 13, .p (.iadS 1 (.tmp 9) (.tmp 11)), none⟩,
  ⟨some 14, .r (.ld (.tmp 13)), none⟩,
  ⟨some 5, .p (.mv (.tmp 14)), none⟩])
 (.seq (.reg [⟨some 15, .p (.mv (.tmp 3)), none⟩,
  ⟨some 16, .p (.mv (.tmp 5)), none⟩,
  ⟨some 17, .p (.lenV true (.tmp 16)), none⟩,
  ⟨some 18, .p (.bin .add (.tmp 15) (.tmp 17)), none⟩,
  ⟨some 3, .p (.mv (.tmp 18)), none⟩])
 (.seq (.reg [⟨some 19, .p (.mv (.tmp 3)), none⟩,
  ⟨some 20, .p (.bin .lss (.tmp 19) (.const (.int .i64 0))), none⟩])
 (.cond (.tmp 20)
 (.reg [⟨some 21, .p (.mkI 9 (.const (.string ⟨#[108, 101, 110, 32, 111, 117, 116, 32, 111, 102, 32, 114, 97, 110, 103, 101]⟩))), none⟩,
  ⟨none, .w (.no 4), none⟩])
 .skip)))))
 (.reg [⟨some 22, .p (.bin .add (.tmp 11) (.const (.int .i64 1))), none⟩,
  ⟨some 11, .p (.mv (.tmp 22)), none⟩])))))))
 (.seq (.reg [⟨some 23, .p (.mv (.tmp 3)), none⟩,
  ⟨some 24, .w (.call (.func 103) [(.const (.slice none 0 0)), (.tmp 23)]), none⟩,
  ⟨some 6, .p (.mv (.tmp 24)), none⟩])
 (.seqK [6] (.seq (.reg [⟨some 25, .p (.mv (.tmp 0)), none⟩,
  ⟨some 26, .p (.lenV true (.tmp 25)), none⟩,
  ⟨some 27, .p (.mv (.const (.int .i64 0))), none⟩])
 (.block 2 (.loop [6, 25, 26, 27] (.seq (.reg [⟨some 28, .p (.bin .lss (.tmp 27) (.tmp 26)), none⟩])
 (.seqK [6, 25, 26, 27] (.cond (.tmp 28)
 .skip
 (.exit 2))
 (.seqK [6, 25, 26, 27] (.block 3 (.seq (.reg [⟨some 29, .p (.iadS 1 (.tmp 25) (.tmp 27)), none⟩,
  ⟨some 30, .r (.ld (.tmp 29)), none⟩,
  ⟨some 8, .p (.mv (.tmp 30)), none⟩])
 (.reg [⟨some 31, .p (.mv (.tmp 6)), none⟩,
  ⟨some 32, .p (.mv (.tmp 8)), none⟩,
  ⟨some 33, .w (.app 9 1 16 (.tmp 31) (.tmp 32)), none⟩,
  ⟨some 6, .p (.mv (.tmp 33)), none⟩])))
 (.reg [⟨some 34, .p (.bin .add (.tmp 27) (.const (.int .i64 1))), none⟩,
  ⟨some 27, .p (.mv (.tmp 34)), none⟩])))))))
 (.seq (.reg [⟨some 35, .p (.mv (.tmp 6)), none⟩,
  ⟨some 2, .p (.mv (.tmp 35)), none⟩])
 .ret))))))⟩
/- agonic/logbook.checksum -/
def c74 : IFunc := ⟨1, [.tmp 2],
(.seq (.reg [⟨some 2, .p (.mv (.const (.int .i64 0))), none⟩])
 (.seq (.reg [⟨some 3, .p (.mv (.const (.int .i64 0))), none⟩])
 (.seqK [3] (.seq (.reg [⟨some 5, .p (.mv (.tmp 0)), none⟩,
  ⟨some 6, .p (.lenV false (.tmp 5)), none⟩,
  ⟨some 7, .p (.mv (.const (.int .i64 0))), none⟩])
 (.block 0 (.loop [0, 3, 6, 7] (.seq (.reg [⟨some 8, .p (.bin .lss (.tmp 7) (.tmp 6)), none⟩])
 (.seqK [0, 3, 6, 7] (.cond (.tmp 8)
 .skip
 (.exit 0))
 (.seqK [0, 3, 6, 7] (.block 1 (.seq (.reg [⟨some 9, .p (.mv (.tmp 7)), none⟩,
  ⟨some 4, .p (.mv (.tmp 9)), none⟩])
 (.reg [⟨some 10, .p (.mv (.tmp 3)), none⟩,
  ⟨some 11, .p (.bin .mul (.const (.int .i64 31)) (.tmp 10)), none⟩,
  ⟨some 12, .p (.mv (.tmp 0)), none⟩,
  ⟨some 13, .p (.mv (.tmp 4)), none⟩,
  ⟨some 14, .p (.idxS (.tmp 12) (.tmp 13)), none⟩,
  ⟨some 15, .p (.cint .i64 (.tmp 14)), none⟩,
  ⟨some 16, .p (.bin .add (.tmp 11) (.tmp 15)), none⟩,
  ⟨some 17, .p (.bin .rem (.tmp 16) (.const (.int .i64 9973))), none⟩,
  ⟨some 3, .p (.mv (.tmp 17)), none⟩])))
 (.reg [⟨some 18, .p (.bin .add (.tmp 7) (.const (.int .i64 1))), none⟩,
  ⟨some 7, .p (.mv (.tmp 18)), none⟩])))))))
 (.seq (.reg [⟨some 19, .p (.mv (.tmp 3)), none⟩,
  ⟨some 2, .p (.mv (.tmp 19)), none⟩])
 .ret))))⟩
/- agonic/logbook.decimal -/
def c78 : IFunc := ⟨1, [.tmp 2],
(.seq (.reg [⟨some 2, .p (.mv (.const (.bool false))), none⟩])
 (.seq (.reg [⟨some 5, .p (.mv (.tmp 0)), none⟩,
  ⟨some 6, .w (.call (.func 107) [(.tmp 5), (.const (.string ⟨#[45]⟩))]), none⟩,
  ⟨some 3, .p (.mv (.tmp 6)), none⟩])
 (.seq (.reg [⟨some 7, .p (.mv (.tmp 3)), none⟩,
  ⟨some 8, .w (.call (.func 108) [(.tmp 7), (.func 109)]), none⟩,
  ⟨some 4, .p (.mv (.tmp 8)), none⟩])
 (.seq (.reg [⟨some 9, .p (.mv (.tmp 0)), none⟩,
  ⟨some 10, .p (.bin .eql (.tmp 9) (.const (.string ⟨#[48]⟩))), none⟩,
  ⟨some 11, .p (.mv (.tmp 10)), none⟩,
  ⟨some 12, .p (.mv (.tmp 3)), some (11, false)⟩,
  ⟨some 13, .p (.bin .neq (.tmp 12) (.const (.string ⟨#[]⟩))), some (11, false)⟩,
  ⟨some 14, .p (.mv (.tmp 13)), some (11, false)⟩,
  ⟨some 15, .p (.mv (.tmp 3)), some (14, true)⟩,
  ⟨some 16, .p (.idxS (.tmp 15) (.const (.int .i64 0))), some (14, true)⟩,
  ⟨some 17, .p (.bin .neq (.tmp 16) (.const (.int .u8 48))), some (14, true)⟩,
  ⟨some 18, .p (.pick (.tmp 14) (.tmp 17) (.const (.bool false))), some (11, false)⟩,
  ⟨some 19, .p (.mv (.tmp 18)), some (11, false)⟩,
  ⟨some 20, .p (.mv (.tmp 4)), some (19, true)⟩,
  ⟨some 21, .p (.un .not (.tmp 20)), some (19, true)⟩,
  ⟨some 22, .p (.pick (.tmp 19) (.tmp 21) (.const (.bool false))), some (11, false)⟩,
  ⟨some 23, .p (.pick (.tmp 11) (.const (.bool true)) (.tmp 22)), none⟩,
  ⟨some 2, .p (.mv (.tmp 23)), none⟩])
 .ret))))⟩
/- agonic/logbook.within -/
def c79 : IFunc := ⟨3, [.tmp 6],
(.seq (.reg [⟨some 6, .p (.mv (.const (.bool false))), none⟩])
 (.seq (.reg [⟨some 10, .p (.mv (.tmp 0)), none⟩,
  ⟨some 11, .w (.call (.func 84) [(.tmp 10)]), none⟩,
  ⟨some 9, .p (.mv (.tmp 11)), none⟩,
  ⟨some 12, .p (.ext (.tmp 9) 0), none⟩,
  ⟨some 13, .p (.ext (.tmp 9) 1), none⟩,
  ⟨some 7, .p (.mv (.tmp 12)), none⟩,
  ⟨some 8, .p (.mv (.tmp 13)), none⟩])
 (.seq (.reg [⟨some 14, .p (.mv (.tmp 8)), none⟩,
  ⟨some 15, .p (.eqs .i 159 false (.tmp 14) (.const (.nilIface))), none⟩,
  ⟨some 16, .p (.mv (.tmp 15)), none⟩,
  ⟨some 17, .p (.mv (.tmp 1)), some (16, true)⟩,
  ⟨some 18, .p (.mv (.tmp 7)), some (16, true)⟩,
  ⟨some 19, .p (.bin .leq (.tmp 17) (.tmp 18)), some (16, true)⟩,
  ⟨some 20, .p (.pick (.tmp 16) (.tmp 19) (.const (.bool false))), none⟩,
  ⟨some 21, .p (.mv (.tmp 20)), none⟩,
  ⟨some 22, .p (.mv (.tmp 7)), some (21, true)⟩,
  ⟨some 23, .p (.mv (.tmp 2)), some (21, true)⟩,
  ⟨some 24, .p (.bin .leq (.tmp 22) (.tmp 23)), some (21, true)⟩,
  ⟨some 25, .p (.pick (.tmp 21) (.tmp 24) (.const (.bool false))), none⟩,
  ⟨some 6, .p (.mv (.tmp 25)), none⟩])
 .ret)))⟩
/- agonic/pillar.Name -/
def c82 : IFunc := ⟨1, [.tmp 2],
(.seq (.reg [⟨some 2, .p (.mv (.const (.bool false))), none⟩])
 (.seq (.reg [⟨some 3, .p (.mv (.tmp 0)), none⟩,
  ⟨some 4, .p (.lenV false (.tmp 3)), none⟩,
  ⟨some 5, .p (.bin .gtr (.tmp 4) (.const (.int .i64 0))), none⟩,
  ⟨some 6, .p (.mv (.tmp 5)), none⟩,
  ⟨some 7, .p (.mv (.tmp 0)), some (6, true)⟩,
  ⟨some 8, .p (.lenV false (.tmp 7)), some (6, true)⟩,
  ⟨some 9, .p (.bin .leq (.tmp 8) (.const (.int .i64 6))), some (6, true)⟩,
  ⟨some 10, .p (.pick (.tmp 6) (.tmp 9) (.const (.bool false))), none⟩,
  ⟨some 11, .p (.mv (.tmp 10)), none⟩,
  ⟨some 12, .p (.mv (.tmp 0)), some (11, true)⟩,
  ⟨some 13, .a (.strb 5 (.tmp 12)), some (11, true)⟩,
  ⟨some 14, .w (.call (.func 110) [(.tmp 13), (.func 111)]), some (11, true)⟩,
  ⟨some 15, .p (.un .not (.tmp 14)), some (11, true)⟩,
  ⟨some 16, .p (.pick (.tmp 11) (.tmp 15) (.const (.bool false))), none⟩,
  ⟨some 2, .p (.mv (.tmp 16)), none⟩])
 .ret))⟩
/- agonic/logbook.words -/
def c83 : IFunc := ⟨1, [.tmp 2, .tmp 3],
(.seq (.reg [⟨some 2, .p (.mv (.const (.slice none 0 0))), none⟩,
  ⟨some 3, .p (.mv (.const (.bool false))), none⟩])
 (.seq (.reg [⟨some 4, .p (.mv (.const (.int .i32 32))), none⟩])
 (.seqK [0, 4] (.seq (.reg [⟨some 7, .p (.mv (.tmp 0)), none⟩,
  ⟨some 8, .a (.rngS (.tmp 7)), none⟩])
 (.block 0 (.loop [0, 4, 8] (.seq (.reg [⟨some 9, .w (.nxtS (.tmp 8)), none⟩,
  ⟨some 10, .p (.ext (.tmp 9) 0), none⟩])
 (.seqK [0, 4, 8, 9] (.cond (.tmp 10)
 .skip
 (.exit 0))
 (.block 1 (.seq (.reg [⟨some 11, .p (.ext (.tmp 9) 2), none⟩,
  ⟨some 6, .p (.mv (.tmp 11)), none⟩])
 (.seqK [0, 6, 8] (.seq (.reg [⟨some 12, .p (.mv (.tmp 6)), none⟩,
  ⟨some 13, .p (.bin .lss (.tmp 12) (.const (.int .i32 32))), none⟩,
  ⟨some 14, .p (.mv (.tmp 13)), none⟩,
  ⟨some 15, .p (.mv (.tmp 6)), some (14, false)⟩,
  ⟨some 16, .p (.bin .gtr (.tmp 15) (.const (.int .i32 126))), some (14, false)⟩,
  ⟨some 17, .p (.pick (.tmp 14) (.const (.bool true)) (.tmp 16)), none⟩,
  ⟨some 18, .p (.mv (.tmp 17)), none⟩,
  ⟨some 19, .p (.mv (.tmp 6)), some (18, false)⟩,
  ⟨some 20, .p (.bin .eql (.tmp 19) (.const (.int .i32 32))), some (18, false)⟩,
  ⟨some 21, .p (.mv (.tmp 20)), some (18, false)⟩,
  ⟨some 22, .p (.mv (.tmp 4)), some (21, true)⟩,
  ⟨some 23, .p (.bin .eql (.tmp 22) (.const (.int .i32 32))), some (21, true)⟩,
  ⟨some 24, .p (.pick (.tmp 21) (.tmp 23) (.const (.bool false))), some (18, false)⟩,
  ⟨some 25, .p (.pick (.tmp 18) (.const (.bool true)) (.tmp 24)), none⟩])
 (.cond (.tmp 25)
 (.seq (.reg [⟨some 2, .p (.mv (.const (.slice none 0 0))), none⟩,
  ⟨some 3, .p (.mv (.const (.bool false))), none⟩])
 .ret)
 .skip))
 (.reg [⟨some 26, .p (.mv (.tmp 6)), none⟩,
  ⟨some 4, .p (.mv (.tmp 26)), none⟩])))))))))
 (.seq (.reg [⟨some 27, .p (.mv (.tmp 0)), none⟩,
  ⟨some 28, .w (.call (.func 105) [(.tmp 27), (.const (.string ⟨#[32]⟩))]), none⟩,
  ⟨some 29, .p (.mv (.tmp 4)), none⟩,
  ⟨some 30, .p (.bin .neq (.tmp 29) (.const (.int .i32 32))), none⟩,
  ⟨some 2, .p (.mv (.tmp 28)), none⟩,
  ⟨some 3, .p (.mv (.tmp 30)), none⟩])
 .ret))))⟩
/- agonic/logbook.commands -/
def c87 : IFunc := ⟨1, [.cells 2 2, .tmp 3],
(.seq (.reg [⟨some 2, .a (.alloc 164 [.string ⟨#[]⟩, .nilFunc]), none⟩,
  ⟨some 3, .p (.mv (.const (.bool false))), none⟩])
 (.seq (.reg [⟨some 4, .a (.alloc 80 [.nilFunc]), none⟩,
  ⟨none, .w (.st 1 (.tmp 4) (.func 115)), none⟩])
 (.seq (.reg [⟨some 5, .a (.alloc 80 [.nilFunc]), none⟩,
  ⟨none, .w (.st 1 (.tmp 5) (.func 116)), none⟩])
 (.seqK [2] (.seq (.reg [⟨some 6, .p (.mv (.tmp 0)), none⟩])
 (.block 0 (.seq (.reg [⟨some 8, .p (.bin .eql (.tmp 6) (.const (.string ⟨#[110, 101, 119]⟩))), none⟩,
  ⟨some 7, .p (.mv (.tmp 8)), none⟩])
 (.cond (.tmp 7)
 (.seq (.reg [⟨some 9, .p (.build [.string ⟨#[]⟩, .nilFunc] [(0, 1, (.const (.string ⟨#[78]⟩))), (1, 1, (.func 118))]), none⟩,
  ⟨none, .w (.st 2 (.tmp 2) (.tmp 9)), none⟩,
  ⟨some 3, .p (.mv (.const (.bool true))), none⟩])
 .ret)
 (.seq (.reg [⟨some 11, .p (.bin .eql (.tmp 6) (.const (.string ⟨#[115, 119, 97, 112]⟩))), none⟩,
  ⟨some 10, .p (.mv (.tmp 11)), none⟩])
 (.cond (.tmp 10)
 (.seq (.reg [⟨some 12, .p (.mkF (.func 119) [] [(.tmp 5)]), none⟩,
  ⟨some 13, .p (.build [.string ⟨#[]⟩, .nilFunc] [(0, 1, (.const (.string ⟨#[78, 78, 75]⟩))), (1, 1, (.tmp 12))]), none⟩,
  ⟨none, .w (.st 2 (.tmp 2) (.tmp 13)), none⟩,
  ⟨some 3, .p (.mv (.const (.bool true))), none⟩])
 .ret)
 (.seq (.reg [⟨some 15, .p (.bin .eql (.tmp 6) (.const (.string ⟨#[99, 97, 114, 100]⟩))), none⟩,
  ⟨some 14, .p (.mv (.tmp 15)), none⟩])
 (.cond (.tmp 14)
 (.seq (.reg [⟨some 16, .p (.mkF (.func 120) [] [(.tmp 4)]), none⟩,
  ⟨some 17, .p (.build [.string ⟨#[]⟩, .nilFunc] [(0, 1, (.const (.string ⟨#[78, 68, 68]⟩))), (1, 1, (.tmp 16))]), none⟩,
  ⟨none, .w (.st 2 (.tmp 2) (.tmp 17)), none⟩,
  ⟨some 3, .p (.mv (.const (.bool true))), none⟩])
 .ret)
 (.seq (.reg [⟨some 19, .p (.bin .eql (.tmp 6) (.const (.string ⟨#[109, 101, 110, 100]⟩))), none⟩,
  ⟨some 18, .p (.mv (.tmp 19)), none⟩])
 (.cond (.tmp 18)
 (.seq (.reg [⟨some 20, .p (.mkF (.func 121) [] [(.tmp 5)]), none⟩,
  ⟨some 21, .p (.build [.string ⟨#[]⟩, .nilFunc] [(0, 1, (.const (.string ⟨#[78, 75]⟩))), (1, 1, (.tmp 20))]), none⟩,
  ⟨none, .w (.st 2 (.tmp 2) (.tmp 21)), none⟩,
  ⟨some 3, .p (.mv (.const (.bool true))), none⟩])
 .ret)
 (.seq (.reg [⟨some 23, .p (.bin .eql (.tmp 6) (.const (.string ⟨#[117, 110, 100, 111]⟩))), none⟩,
  ⟨some 22, .p (.mv (.tmp 23)), none⟩])
 (.cond (.tmp 22)
 (.seq (.reg [⟨some 24, .p (.build [.string ⟨#[]⟩, .nilFunc] [(0, 1, (.const (.string ⟨#[]⟩))), (1, 1, (.func 122))]), none⟩,
  ⟨none, .w (.st 2 (.tmp 2) (.tmp 24)), none⟩,
  ⟨some 3, .p (.mv (.const (.bool true))), none⟩])
 .ret)
 .skip))))))))))))
 (.seq (.reg [⟨some 25, .p (.build [.string ⟨#[]⟩, .nilFunc] []), none⟩,
  ⟨none, .w (.st 2 (.tmp 2) (.tmp 25)), none⟩,
  ⟨some 3, .p (.mv (.const (.bool false))), none⟩])
 .ret)))))⟩
/- agonic/logbook.read$1 -/
def c88 : IFunc := ⟨4, [.tmp 6],
(.seq (.reg [⟨some 6, .p (.mv (.const (.bool false))), none⟩])
 (.seqK [] (.seq (.reg [⟨some 9, .p (.faddr 0 (.tmp 2)), none⟩,
  ⟨some 10, .r (.ld (.tmp 9)), none⟩,
  ⟨some 11, .a (.rngS (.tmp 10)), none⟩])
 (.block 0 (.loop [0, 1, 3, 11] (.seq (.reg [⟨some 12, .w (.nxtS (.tmp 11)), none⟩,
  ⟨some 13, .p (.ext (.tmp 12) 0), none⟩])
 (.seqK [0, 1, 3, 11, 12] (.cond (.tmp 13)
 .skip
 (.exit 0))
 (.block 1 (.seq (.reg [⟨some 14, .p (.ext (.tmp 12) 1), none⟩,
  ⟨some 15, .p (.ext (.tmp 12) 2), none⟩,
  ⟨some 7, .p (.mv (.tmp 14)), none⟩,
  ⟨some 8, .p (.mv (.tmp 15)), none⟩])
 (.seq (.reg [⟨some 16, .p (.mv (.tmp 8)), none⟩,
  ⟨some 17, .p (.mv (.tmp 0)), none⟩,
  ⟨some 18, .p (.bin .eql (.tmp 16) (.tmp 17)), none⟩,
  ⟨some 19, .p (.mv (.tmp 18)), none⟩,
  ⟨some 20, .p (.mv (.tmp 1)), some (19, true)⟩,
  ⟨some 21, .r (.ld (.tmp 3)), some (19, true)⟩,
  ⟨some 22, .p (.mv (.tmp 7)), some (19, true)⟩,
  ⟨some 23, .p (.bin .add (.tmp 22) (.const (.int .i64 1))), some (19, true)⟩,
  ⟨some 24, .p (.iadS 1 (.tmp 21) (.tmp 23)), some (19, true)⟩,
  ⟨some 25, .r (.ld (.tmp 24)), some (19, true)⟩,
  ⟨some 26, .w (.call (.tmp 20) [(.tmp 25)]), some (19, true)⟩,
  ⟨some 27, .p (.un .not (.tmp 26)), some (19, true)⟩,
  ⟨some 28, .p (.pick (.tmp 19) (.tmp 27) (.const (.bool false))), none⟩])
 (.cond (.tmp 28)
 (.seq (.reg [⟨some 6, .p (.mv (.const (.bool true))), none⟩])
 .ret)
 .skip)))))))))
 (.seq (.reg [⟨some 6, .p (.mv (.const (.bool false))), none⟩])
 .ret)))⟩
/- agonic/logbook.read$2 -/
def c89 : IFunc := ⟨1, [.tmp 2],
(.seq (.reg [⟨some 2, .p (.mv (.const (.bool false))), none⟩])
 (.seq (.reg [⟨some 3, .r (.ld (.global 0)), none⟩,
  ⟨some 4, .p (.mv (.tmp 0)), none⟩,
  ⟨some 5, .w (.call (.func 90) [(.tmp 3), (.tmp 4)]), none⟩,
  ⟨some 2, .p (.mv (.tmp 5)), none⟩])
 .ret))⟩
/- slices.Contains[[]string,string] -/
def c90 : IFunc := ⟨2, [.tmp 4],
(.seq (.reg [⟨some 4, .p (.mv (.const (.bool false))), none⟩])
 (.seq (.reg [⟨some 5, .p (.mv (.tmp 0)), none⟩,
  ⟨some 6, .p (.mv (.tmp 1)), none⟩,
  ⟨some 7, .w (.call (.func 117) [(.tmp 5), (.tmp 6)]), none⟩,
  ⟨some 8, .p (.bin .geq (.tmp 7) (.const (.int .i64 0))), none⟩,
  ⟨some 4, .p (.mv (.tmp 8)), none⟩])
 .ret))⟩
/- (*agonic/logbook.office).find -/
def c93 : IFunc := ⟨2, [.tmp 4],
(.seq (.reg [⟨some 3, .a (.box 9 (.tmp 1)), none⟩,
  ⟨some 4, .p (.mv (.const (.int .i64 0))), none⟩])
 (.seq (.reg [⟨some 5, .p (.mv (.tmp 0)), none⟩,
  ⟨some 6, .p (.nilc (.tmp 5)), none⟩,
  ⟨some 7, .p (.faddr 0 (.tmp 6)), none⟩,
  ⟨some 8, .r (.ld (.tmp 7)), none⟩,
  ⟨some 9, .p (.mkF (.func 124) [] [(.tmp 3)]), none⟩,
  ⟨some 10, .w (.call (.func 123) [(.tmp 8), (.tmp 9)]), none⟩,
  ⟨some 4, .p (.mv (.tmp 10)), none⟩])
 .ret))⟩
/- (*agonic/logbook.office).add -/
def c94 : IFunc := ⟨4, [],
(.seq (.regD [(⟨some 8, .p (.mv (.tmp 0)), none⟩, [0]),
  (⟨some 9, .p (.nilc (.tmp 8)), none⟩, [8]),
  (⟨some 10, .p (.faddr 0 (.tmp 9)), none⟩, [9]),
  (⟨some 11, .r (.ld (.tmp 10)), none⟩, [10]),
  (⟨some 12, .p (.mv (.tmp 1)), none⟩, [1]),
  (⟨some 13, .p (.mv (.tmp 2)), none⟩, [2]),
  (⟨some 14, .p (.mv (.tmp 0)), none⟩, [0]),
  (⟨some 15, .p (.nilc (.tmp 14)), none⟩, [14]),
  (⟨some 16, .p (.faddr 1 (.tmp 15)), none⟩, [15]),
  (⟨some 17, .r (.ld (.tmp 16)), none⟩, [16]),
  (⟨some 18, .p (.lenV true (.tmp 17)), none⟩, [17]),
  (⟨some 19, .p (.iadS 21 (.tmp 11) (.tmp 12)), none⟩, [11, 12]),
  (⟨some 20, .p (.faddr 1 (.tmp 19)), none⟩, [19]),
  (⟨some 21, .p (.iadA 4 1 (.tmp 20) (.tmp 13)), none⟩, [13, 20]),
  (⟨none, .w (.st 1 (.tmp 21) (.tmp 18)), none⟩, [18, 21])] [])
 (.reg [⟨some 22, .p (.mv (.tmp 0)), none⟩,
  ⟨some 23, .p (.mv (.tmp 0)), none⟩,
  ⟨some 24, .p (.nilc (.tmp 23)), none⟩,
  ⟨some 25, .p (.faddr 1 (.tmp 24)), none⟩,
  ⟨some 26, .r (.ld (.tmp 25)), none⟩,
  ⟨some 27, .p (.mv (.tmp 1)), none⟩,
  ⟨some 28, .p (.mv (.tmp 3)), none⟩,
  ⟨some 29, .p (.build [.int .i64 0, .int .i64 0] [(0, 1, (.tmp 27)), (1, 1, (.tmp 28))]), none⟩,
  ⟨some 30, .a (.mkSl 116 [.int .i64 0, .int .i64 0] 1 [(0, 2, (.tmp 29))]), none⟩,
  ⟨some 31, .w (.app 116 2 16 (.tmp 26) (.tmp 30)), none⟩,
  ⟨some 32, .p (.nilc (.tmp 22)), none⟩,
  ⟨some 33, .p (.faddr 1 (.tmp 32)), none⟩,
  ⟨none, .w (.st 1 (.tmp 33) (.tmp 31)), none⟩]))⟩
/- internal/stringslite.HasSuffix -/
def c95 : IFunc := ⟨2, [.tmp 4],
(.seq (.reg [⟨some 4, .p (.mv (.const (.bool false))), none⟩])
 (.seq (.reg [⟨some 5, .p (.mv (.tmp 0)), none⟩,
  ⟨some 6, .p (.lenV false (.tmp 5)), none⟩,
  ⟨some 7, .p (.mv (.tmp 1)), none⟩,
  ⟨some 8, .p (.lenV false (.tmp 7)), none⟩,
  ⟨some 9, .p (.bin .geq (.tmp 6) (.tmp 8)), none⟩,
  ⟨some 10, .p (.mv (.tmp 9)), none⟩,
  ⟨some 11, .p (.mv (.tmp 0)), some (10, true)⟩,
  ⟨some 12, .p (.mv (.tmp 0)), some (10, true)⟩,
  ⟨some 13, .p (.lenV false (.tmp 12)), some (10, true)⟩,
  ⟨some 14, .p (.mv (.tmp 1)), some (10, true)⟩,
  ⟨some 15, .p (.lenV false (.tmp 14)), some (10, true)⟩,
  ⟨some 16, .p (.bin .sub (.tmp 13) (.tmp 15)), some (10, true)⟩,
  ⟨some 17, .p (.slStr (.tmp 11) (some (.tmp 16)) none), some (10, true)⟩,
  ⟨some 18, .p (.mv (.tmp 1)), some (10, true)⟩,
  ⟨some 19, .p (.bin .eql (.tmp 17) (.tmp 18)), some (10, true)⟩,
  ⟨some 20, .p (.pick (.tmp 10) (.tmp 19) (.const (.bool false))), none⟩,
  ⟨some 4, .p (.mv (.tmp 20)), none⟩])
 .ret))⟩
/- strings.Lines$1 -/
def c96 : IFunc := ⟨2, [],
(.block 0 (.loop [0, 1] (.seqK [0, 1] (.seq (.reg [⟨some 5, .r (.ld (.tmp 1)), none⟩,
  ⟨some 6, .p (.lenV false (.tmp 5)), none⟩,
  ⟨some 7, .p (.bin .gtr (.tmp 6) (.const (.int .i64 0))), none⟩])
 (.cond (.tmp 7)
 .skip
 (.exit 0)))
 (.block 1 (.seq (.reg [⟨some 3, .p (.mv (.const (.string ⟨#[]⟩))), none⟩])
 (.seqK [0, 1, 3] (.seq (.reg [⟨some 8, .r (.ld (.tmp 1)), none⟩,
  ⟨some 9, .w (.call (.func 97) [(.tmp 8), (.const (.int .u8 10))]), none⟩,
  ⟨some 4, .p (.mv (.tmp 9)), none⟩])
 (.seq (.reg [⟨some 10, .p (.mv (.tmp 4)), none⟩,
  ⟨some 11, .p (.bin .geq (.tmp 10) (.const (.int .i64 0))), none⟩])
 (.cond (.tmp 11)
 (.regD [(⟨some 12, .r (.ld (.tmp 1)), none⟩, [1]),
  (⟨some 13, .p (.mv (.tmp 4)), none⟩, [4]),
  (⟨some 14, .p (.bin .add (.tmp 13) (.const (.int .i64 1))), none⟩, [13]),
  (⟨some 15, .p (.slStr (.tmp 12) none (some (.tmp 14))), none⟩, [12, 14]),
  (⟨some 16, .r (.ld (.tmp 1)), none⟩, [1]),
  (⟨some 17, .p (.mv (.tmp 4)), none⟩, [4]),
  (⟨some 18, .p (.bin .add (.tmp 17) (.const (.int .i64 1))), none⟩, [17]),
  (⟨some 19, .p (.slStr (.tmp 16) (some (.tmp 18)) none), none⟩, [16, 18]),
  (⟨some 3, .p (.mv (.tmp 15)), none⟩, [15]),
  (⟨none, .w (.st 1 (.tmp 1) (.tmp 19)), none⟩, [1, 19])] [])
 (.reg [⟨some 20, .r (.ld (.tmp 1)), none⟩,
  ⟨some 3, .p (.mv (.tmp 20)), none⟩,
  ⟨none, .w (.st 1 (.tmp 1) (.const (.string ⟨#[]⟩))), none⟩]))))
 (.seq (.reg [⟨some 21, .p (.mv (.tmp 0)), none⟩,
  ⟨some 22, .p (.mv (.tmp 3)), none⟩,
  ⟨some 23, .w (.call (.tmp 21) [(.tmp 22)]), none⟩,
  ⟨some 24, .p (.un .not (.tmp 23)), none⟩])
 (.cond (.tmp 24)
 .ret
 .skip))))))))⟩
/- internal/stringslite.TrimSuffix -/
def c98 : IFunc := ⟨2, [.tmp 4],
(.seq (.reg [⟨some 4, .p (.mv (.const (.string ⟨#[]⟩))), none⟩])
 (.seqK [0] (.seq (.reg [⟨some 5, .p (.mv (.tmp 0)), none⟩,
  ⟨some 6, .p (.mv (.tmp 1)), none⟩,
  ⟨some 7, .w (.call (.func 95) [(.tmp 5), (.tmp 6)]), none⟩])
 (.cond (.tmp 7)
 (.seq (.reg [⟨some 8, .p (.mv (.tmp 0)), none⟩,
  ⟨some 9, .p (.mv (.tmp 0)), none⟩,
  ⟨some 10, .p (.lenV false (.tmp 9)), none⟩,
  ⟨some 11, .p (.mv (.tmp 1)), none⟩,
  ⟨some 12, .p (.lenV false (.tmp 11)), none⟩,
  ⟨some 13, .p (.bin .sub (.tmp 10) (.tmp 12)), none⟩,
  ⟨some 14, .p (.slStr (.tmp 8) none (some (.tmp 13))), none⟩,
  ⟨some 4, .p (.mv (.tmp 14)), none⟩])
 .ret)
 .skip))
 (.seq (.reg [⟨some 15, .p (.mv (.tmp 0)), none⟩,
  ⟨some 4, .p (.mv (.tmp 15)), none⟩])
 .ret)))⟩
/- (*agonic/logbook.office).swaps$1 -/
def c99 : IFunc := ⟨2, [],
(.seq (.reg [⟨some 9, .p (.mv (.const (.int .i64 0))), none⟩])
 (.block 0 (.loop [0, 1, 9] (.seq (.reg [⟨some 10, .p (.bin .lss (.tmp 9) (.const (.int .i64 4))), none⟩])
 (.seqK [0, 1, 9] (.cond (.tmp 10)
 .skip
 (.exit 0))
 (.seqK [0, 1, 9] (.block 1 (.seq (.reg [⟨some 11, .p (.mv (.tmp 9)), none⟩,
  ⟨some 3, .p (.mv (.tmp 11)), none⟩])
 (.seq (.reg [⟨some 4, .p (.mv (.const (.slice none 0 0))), none⟩])
 (.seqK [0, 1, 3, 4, 9] (.seq (.reg [⟨some 12, .r (.ld (.tmp 1)), none⟩,
  ⟨some 13, .p (.nilc (.tmp 12)), none⟩,
  ⟨some 14, .p (.faddr 0 (.tmp 13)), none⟩,
  ⟨some 15, .r (.ld (.tmp 14)), none⟩,
  ⟨some 16, .p (.lenV true (.tmp 15)), none⟩,
  ⟨some 17, .p (.mv (.const (.int .i64 0))), none⟩])
 (.block 2 (.loop [0, 1, 3, 4, 9, 15, 16, 17] (.seq (.reg [⟨some 18, .p (.bin .lss (.tmp 17) (.tmp 16)), none⟩])
 (.seqK [0, 1, 3, 4, 9, 15, 16, 17] (.cond (.tmp 18)
 .skip
 (.exit 2))
 (.seqK [0, 1, 3, 4, 9, 15, 16, 17] (.block 3 (.seq (.reg [⟨some 19, .p (.iadS 21 (.tmp 15) (.tmp 17)), none⟩,
  ⟨some 20, .r (.ldN 21 (.tmp 19)), none⟩,
  ⟨some 6, .a (.alloc 120 [.string ⟨#[]⟩, .int .i64 0, .int .i64 0, .int .i64 0, .int .i64 0, .int .i64 0, .int .i64 0, .int .i64 0, .int .i64 0, .int .i64 0, .int .i64 0, .int .i64 0, .int .i64 0, .bool false, .bool false, .bool false, .bool false, .bool false, .bool false, .bool false, .bool false]), none⟩,
  ⟨none, .w (.st 21 (.tmp 6) (.tmp 20)), none⟩])
 (.regD [(⟨some 21, .p (.mv (.tmp 4)), none⟩, [4]),
  (⟨some 22, .r (.ld (.tmp 1)), none⟩, [1]),
  (⟨some 23, .p (.nilc (.tmp 22)), none⟩, [22]),
  (⟨some 24, .p (.faddr 1 (.tmp 23)), none⟩, [23]),
  (⟨some 25, .r (.ld (.tmp 24)), none⟩, [24]),
  (⟨some 26, .p (.mv (.tmp 3)), none⟩, [3]),
  (⟨some 27, .p (.faddr 1 (.tmp 6)), none⟩, [6]),
  (⟨some 28, .p (.iadA 4 1 (.tmp 27) (.tmp 26)), none⟩, [26, 27]),
  (⟨some 29, .r (.ld (.tmp 28)), none⟩, [28]),
  (⟨some 30, .p (.iadS 2 (.tmp 25) (.tmp 29)), none⟩, [25, 29]),
  (⟨some 31, .p (.faddr 1 (.tmp 30)), none⟩, [30]),
  (⟨some 32, .r (.ld (.tmp 31)), none⟩, [31]),
  (⟨some 33, .a (.mkSl 3 [.int .i64 0] 1 [(0, 1, (.tmp 32))]), none⟩, [32]),
  (⟨some 34, .w (.app 3 1 8 (.tmp 21) (.tmp 33)), none⟩, [21, 33]),
  (⟨some 4, .p (.mv (.tmp 34)), none⟩, [34])] [])))
 (.reg [⟨some 35, .p (.bin .add (.tmp 17) (.const (.int .i64 1))), none⟩,
  ⟨some 17, .p (.mv (.tmp 35)), none⟩])))))))
 (.seq (.reg [⟨some 36, .p (.mv (.tmp 4)), none⟩,
  ⟨some 37, .p (.lenV true (.tmp 36)), none⟩,
  ⟨some 38, .p (.mv (.const (.int .i64 0))), none⟩])
 (.block 4 (.loop [0, 1, 3, 4, 9, 37, 38] (.seq (.reg [⟨some 39, .p (.bin .lss (.tmp 38) (.tmp 37)), none⟩])
 (.seqK [0, 1, 3, 4, 9, 37, 38] (.cond (.tmp 39)
 .skip
 (.exit 4))
 (.seqK [0, 1, 3, 4, 9, 37, 38] (.block 5 (.seq (.reg [⟨some 40, .p (.mv (.tmp 38)), none⟩,
  ⟨some 7, .p (.mv (.tmp 40)), none⟩])
 (.block 6 (.loop [0, 1, 3, 4, 7, 9, 37, 38] (.seqK [0, 1, 3, 4, 7, 9, 37, 38] (.seq (.reg [⟨some 41, .p (.mv (.tmp 4)), none⟩,
  ⟨some 42, .p (.mv (.tmp 7)), none⟩,
  ⟨some 43, .p (.iadS 1 (.tmp 41) (.tmp 42)), none⟩,
  ⟨some 44, .r (.ld (.tmp 43)), none⟩,
  ⟨some 45, .p (.mv (.tmp 7)), none⟩,
  ⟨some 46, .p (.bin .neq (.tmp 44) (.tmp 45)), none⟩])
 (.cond (.tmp 46)
 .skip
 (.exit 6)))
 (.block 7 (.seq (.reg [⟨some 47, .p (.mv (.tmp 4)), none⟩,
  ⟨some 48, .p (.mv (.tmp 7)), none⟩,
  ⟨some 49, .p (.iadS 1 (.tmp 47) (.tmp 48)), none⟩,
  ⟨some 50, .r (.ld (.tmp 49)), none⟩,
  ⟨some 8, .p (.mv (.tmp 50)), none⟩])
 (.seqK [0, 1, 3, 4, 7, 8, 9, 37, 38] (.seq (.reg [⟨some 51, .p (.mv (.tmp 0)), none⟩,
  ⟨some 52, .p (.mv (.tmp 3)), none⟩,
  ⟨some 53, .p (.mv (.tmp 7)), none⟩,
  ⟨some 54, .p (.mv (.tmp 8)), none⟩,
  ⟨some 55, .p (.build [.int .i64 0, .int .i64 0] [(0, 1, (.tmp 53)), (1, 1, (.tmp 54))]), none⟩,
  ⟨some 56, .w (.call (.tmp 51) [(.tmp 52), (.tmp 55)]), none⟩,
  ⟨some 57, .p (.un .not (.tmp 56)), none⟩])
 (.cond (.tmp 57)
 .ret
 .skip))
 (.regD [(⟨some 58, .p (.mv (.tmp 4)), none⟩, [4]),
  (⟨some 59, .p (.mv (.tmp 7)), none⟩, [7]),
  (⟨some 60, .p (.mv (.tmp 4)), none⟩, [4]),
  (⟨some 61, .p (.mv (.tmp 8)), none⟩, [8]),
  (⟨some 62, .p (.mv (.tmp 4)), none⟩, [4]),
  (⟨some 63, .p (.mv (.tmp 8)), none⟩, [8]),
  (⟨some 64, .p (.iadS 1 (.tmp 62) (.tmp 63)), none⟩, [62, 63]),
  (⟨some 65, .r (.ld (.tmp 64)), none⟩, [64]),
  (⟨some 66, .p (.mv (.tmp 4)), none⟩, [4]),
  (⟨some 67, .p (.mv (.tmp 7)), none⟩, [7]),
  (⟨some 68, .p (.iadS 1 (.tmp 66) (.tmp 67)), none⟩, [66, 67]),
  (⟨some 69, .r (.ld (.tmp 68)), none⟩, [68]),
  (⟨some 70, .p (.iadS 1 (.tmp 58) (.tmp 59)), none⟩, [58, 59]),
  (⟨none, .w (.st 1 (.tmp 70) (.tmp 65)), none⟩, [65, 70]),
  (⟨some 71, .p (.iadS 1 (.tmp 60) (.tmp 61)), none⟩, [60, 61]),
  (⟨none, .w (.st 1 (.tmp 71) (.tmp 69)), none⟩, [69, 71])] [])))))))))
 (.reg [⟨some 72, .p (.bin .add (.tmp 38) (.const (.int .i64 1))), none⟩,
  ⟨some 38, .p (.mv (.tmp 72)), none⟩])))))))))))
 (.reg [⟨some 73, .p (.bin .add (.tmp 9) (.const (.int .i64 1))), none⟩,
  ⟨some 9, .p (.mv (.tmp 73)), none⟩])))))))⟩
/- slices.Grow[[]string,string] -/
def c103 : IFunc := ⟨2, [.tmp 4],
(.seq (.reg [⟨some 4, .p (.mv (.const (.slice none 0 0))), none⟩])
 (.seqK [0, 1] (.seq (.reg [⟨some 5, .p (.mv (.tmp 1)), none⟩,
  ⟨some 6, .p (.bin .lss (.tmp 5) (.const (.int .i64 0))), none⟩])
 (.cond (.tmp 6)
 (.reg [⟨some 7, .p (.mkI 9 (.const (.string ⟨#[99, 97, 110, 110, 111, 116, 32, 98, 101, 32, 110, 101, 103, 97, 116, 105, 118, 101]⟩))), none⟩,
  ⟨none, .w (.no 4), none⟩])
 .skip))
 (.seqK [0] (.seq (.reg [⟨some 8, .p (.mv (.tmp 1)), none⟩,
  ⟨some 9, .p (.mv (.tmp 0)), none⟩,
  ⟨some 10, .p (.capV (.tmp 9)), none⟩,
  ⟨some 11, .p (.mv (.tmp 0)), none⟩,
  ⟨some 12, .p (.lenV true (.tmp 11)), none⟩,
  ⟨some 13, .p (.bin .sub (.tmp 10) (.tmp 12)), none⟩,
  ⟨some 14, .p (.bin .sub (.tmp 8) (.tmp 13)), none⟩,
  ⟨some 1, .p (.mv (.tmp 14)), none⟩])
 (.seq (.reg [⟨some 15, .p (.mv (.tmp 1)), none⟩,
  ⟨some 16, .p (.bin .gtr (.tmp 15) (.const (.int .i64 0))), none⟩])
 (.cond (.tmp 16)
 (.reg [⟨some 17, .p (.mv (.tmp 0)), none⟩,
  ⟨some 18, .p (.mv (.tmp 0)), none⟩,
  ⟨some 19, .p (.capV (.tmp 18)), none⟩,
  ⟨some 20, .r (.slSl 9 1 (.tmp 17) none (some (.tmp 19)) none), none⟩,
  ⟨some 21, .p (.mv (.tmp 1)), none⟩,
  ⟨some 22, .w (.appz 9 1 16 [.string ⟨#[]⟩] (.tmp 20) (.tmp 21)), none⟩,
  ⟨some 23, .p (.mv (.tmp 0)), none⟩,
  ⟨some 24, .p (.lenV true (.tmp 23)), none⟩,
  ⟨some 25, .r (.slSl 9 1 (.tmp 22) none (some (.tmp 24)) none), none⟩,
  ⟨some 0, .p (.mv (.tmp 25)), none⟩])
 .skip)))
 (.seq (.reg [⟨some 26, .p (.mv (.tmp 0)), none⟩,
  ⟨some 4, .p (.mv (.tmp 26)), none⟩])
 .ret))))⟩
/- strings.TrimPrefix -/
def c107 : IFunc := ⟨2, [.tmp 4],
(.seq (.reg [⟨some 4, .p (.mv (.const (.string ⟨#[]⟩))), none⟩])
 (.seq (.reg [⟨some 5, .p (.mv (.tmp 0)), none⟩,
  ⟨some 6, .p (.mv (.tmp 1)), none⟩,
  ⟨some 7, .w (.call (.func 134) [(.tmp 5), (.tmp 6)]), none⟩,
  ⟨some 4, .p (.mv (.tmp 7)), none⟩])
 .ret))⟩
/- strings.ContainsFunc -/
def c108 : IFunc := ⟨2, [.tmp 4],
(.seq (.reg [⟨some 4, .p (.mv (.const (.bool false))), none⟩])
 (.seq (.reg [⟨some 5, .p (.mv (.tmp 0)), none⟩,
  ⟨some 6, .p (.mv (.tmp 1)), none⟩,
  ⟨some 7, .w (.call (.func 135) [(.tmp 5), (.tmp 6)]), none⟩,
  ⟨some 8, .p (.bin .geq (.tmp 7) (.const (.int .i64 0))), none⟩,
  ⟨some 4, .p (.mv (.tmp 8)), none⟩])
 .ret))⟩
/- agonic/logbook.decimal$1 -/
def c109 : IFunc := ⟨1, [.tmp 2],
(.seq (.reg [⟨some 2, .p (.mv (.const (.bool false))), none⟩])
 (.seq (.reg [⟨some 3, .p (.mv (.tmp 0)), none⟩,
  ⟨some 4, .p (.bin .lss (.tmp 3) (.const (.int .i32 48))), none⟩,
  ⟨some 5, .p (.mv (.tmp 4)), none⟩,
  ⟨some 6, .p (.mv (.tmp 0)), some (5, false)⟩,
  ⟨some 7, .p (.bin .gtr (.tmp 6) (.const (.int .i32 57))), some (5, false)⟩,
  ⟨some 8, .p (.pick (.tmp 5) (.const (.bool true)) (.tmp 7)), none⟩,
  ⟨some 2, .p (.mv (.tmp 8)), none⟩])
 .ret))⟩
/- slices.ContainsFunc[[]byte,byte] -/
def c110 : IFunc := ⟨2, [.tmp 4],
(.seq (.reg [⟨some 4, .p (.mv (.const (.bool false))), none⟩])
 (.seq (.reg [⟨some 5, .p (.mv (.tmp 0)), none⟩,
  ⟨some 6, .p (.mv (.tmp 1)), none⟩,
  ⟨some 7, .w (.call (.func 136) [(.tmp 5), (.tmp 6)]), none⟩,
  ⟨some 8, .p (.bin .geq (.tmp 7) (.const (.int .i64 0))), none⟩,
  ⟨some 4, .p (.mv (.tmp 8)), none⟩])
 .ret))⟩
/- agonic/pillar.Name$1 -/
def c111 : IFunc := ⟨1, [.tmp 2],
(.seq (.reg [⟨some 2, .p (.mv (.const (.bool false))), none⟩])
 (.seq (.reg [⟨some 3, .p (.mv (.tmp 0)), none⟩,
  ⟨some 4, .p (.bin .lss (.tmp 3) (.const (.int .u8 97))), none⟩,
  ⟨some 5, .p (.mv (.tmp 4)), none⟩,
  ⟨some 6, .p (.mv (.tmp 0)), some (5, false)⟩,
  ⟨some 7, .p (.bin .gtr (.tmp 6) (.const (.int .u8 122))), some (5, false)⟩,
  ⟨some 8, .p (.pick (.tmp 5) (.const (.bool true)) (.tmp 7)), none⟩,
  ⟨some 2, .p (.mv (.tmp 8)), none⟩])
 .ret))⟩
/- agonic/logbook.commands$1 -/
def c115 : IFunc := ⟨1, [.tmp 2],
(.seq (.reg [⟨some 2, .p (.mv (.const (.int .i64 0))), none⟩])
 (.seq (.reg [⟨some 6, .p (.mv (.tmp 0)), none⟩,
  ⟨some 7, .w (.call (.func 84) [(.tmp 6)]), none⟩,
  ⟨some 5, .p (.mv (.tmp 7)), none⟩,
  ⟨some 8, .p (.ext (.tmp 5) 0), none⟩,
  ⟨some 9, .p (.ext (.tmp 5) 1), none⟩,
  ⟨some 3, .p (.mv (.tmp 8)), none⟩,
  ⟨some 4, .p (.mv (.tmp 9)), none⟩])
 (.seq (.reg [⟨some 10, .p (.mv (.tmp 3)), none⟩,
  ⟨some 2, .p (.mv (.tmp 10)), none⟩])
 .ret)))⟩
/- agonic/logbook.commands$2 -/
def c116 : IFunc := ⟨1, [.tmp 2],
(.seq (.reg [⟨some 2, .p (.mv (.const (.int .i64 0))), none⟩])
 (.seq (.reg [⟨some 3, .r (.ld (.global 0)), none⟩,
  ⟨some 4, .p (.mv (.tmp 0)), none⟩,
  ⟨some 5, .w (.call (.func 117) [(.tmp 3), (.tmp 4)]), none⟩,
  ⟨some 2, .p (.mv (.tmp 5)), none⟩])
 .ret))⟩
/- slices.Index[[]string,string] -/
def c117 : IFunc := ⟨2, [.tmp 4],
(.seq (.reg [⟨some 4, .p (.mv (.const (.int .i64 0))), none⟩])
 (.seqK [] (.seq (.reg [⟨some 6, .p (.mv (.tmp 0)), none⟩,
  ⟨some 7, .p (.lenV true (.tmp 6)), none⟩,
  ⟨some 8, .p (.mv (.const (.int .i64 0))), none⟩])
 (.block 0 (.loop [0, 1, 7, 8] (.seq (.reg [⟨some 9, .p (.bin .lss (.tmp 8) (.tmp 7)), none⟩])
 (.seqK [0, 1, 7, 8] (.cond (.tmp 9)
 .skip
 (.exit 0))
 (.seqK [0, 1, 7, 8] (.block 1 (.seq (.reg [⟨some 10, .p (.mv (.tmp 8)), none⟩,
  ⟨some 5, .p (.mv (.tmp 10)), none⟩])
 (.seq (.reg [⟨some 11, .p (.mv (.tmp 1)), none⟩,
  ⟨some 12, .p (.mv (.tmp 0)), none⟩,
  ⟨some 13, .p (.mv (.tmp 5)), none⟩,
  ⟨some 14, .p (.iadS 1 (.tmp 12) (.tmp 13)), none⟩,
  ⟨some 15, .r (.ld (.tmp 14)), none⟩,
  ⟨some 16, .p (.bin .eql (.tmp 11) (.tmp 15)), none⟩])
 (.cond (.tmp 16)
 (.seq (.reg [⟨some 17, .p (.mv (.tmp 5)), none⟩,
  ⟨some 4, .p (.mv (.tmp 17)), none⟩])
 .ret)
 .skip))))
 (.reg [⟨some 18, .p (.bin .add (.tmp 8) (.const (.int .i64 1))), none⟩,
  ⟨some 8, .p (.mv (.tmp 18)), none⟩])))))))
 (.seq (.reg [⟨some 4, .p (.mv (.const (.int .i64 (-1)))), none⟩])
 .ret)))⟩
/- agonic/logbook.commands$3 -/
def c118 : IFunc := ⟨1, [.tmp 2],
(.seq (.reg [⟨some 2, .p (.mv (.const (.nilIface))), none⟩])
 (.seq (.reg [⟨some 3, .p (.mv (.tmp 0)), none⟩,
  ⟨some 4, .p (.iadS 1 (.tmp 3) (.const (.int .i64 1))), none⟩,
  ⟨some 5, .r (.ld (.tmp 4)), none⟩,
  ⟨some 6, .p (.build [.string ⟨#[]⟩] [(0, 1, (.tmp 5))]), none⟩,
  ⟨some 7, .a (.box 188 (.tmp 6)), none⟩,
  ⟨some 8, .p (.mkI 186 (.tmp 7)), none⟩,
  ⟨some 2, .p (.mv (.tmp 8)), none⟩])
 .ret))⟩
/- agonic/logbook.commands$4 -/
def c119 : IFunc := ⟨2, [.tmp 3],
(.seq (.reg [⟨some 3, .p (.mv (.const (.nilIface))), none⟩])
 (.seq (.regD [(⟨some 4, .p (.mv (.tmp 0)), none⟩, [0]),
  (⟨some 5, .p (.iadS 1 (.tmp 4) (.const (.int .i64 1))), none⟩, [4]),
  (⟨some 6, .r (.ld (.tmp 5)), none⟩, [5]),
  (⟨some 7, .p (.mv (.tmp 0)), none⟩, [0]),
  (⟨some 8, .p (.iadS 1 (.tmp 7) (.const (.int .i64 2))), none⟩, [7]),
  (⟨some 9, .r (.ld (.tmp 8)), none⟩, [8]),
  (⟨some 10, .r (.ld (.tmp 1)), none⟩, [1]),
  (⟨some 11, .p (.mv (.tmp 0)), none⟩, [0]),
  (⟨some 12, .p (.iadS 1 (.tmp 11) (.const (.int .i64 3))), none⟩, [11]),
  (⟨some 13, .r (.ld (.tmp 12)), none⟩, [12]),
  (⟨some 14, .w (.call (.tmp 10) [(.tmp 13)]), none⟩, [10, 13]),
  (⟨some 15, .p (.build [.string ⟨#[]⟩, .string ⟨#[]⟩, .int .i64 0] [(0, 1, (.tmp 6)), (1, 1, (.tmp 9)), (2, 1, (.tmp 14))]), none⟩, [6, 9, 14]),
  (⟨some 16, .a (.box 191 (.tmp 15)), none⟩, [15]),
  (⟨some 17, .p (.mkI 189 (.tmp 16)), none⟩, [16]),
  (⟨some 3, .p (.mv (.tmp 17)), none⟩, [17])] [(2, [10]), (5, [10])])
 .ret))⟩
/- agonic/logbook.commands$5 -/
def c120 : IFunc := ⟨2, [.tmp 3],
(.seq (.reg [⟨some 3, .p (.mv (.const (.nilIface))), none⟩])
 (.seq (.regD [(⟨some 4, .p (.mv (.tmp 0)), none⟩, [0]),
  (⟨some 5, .p (.iadS 1 (.tmp 4) (.const (.int .i64 1))), none⟩, [4]),
  (⟨some 6, .r (.ld (.tmp 5)), none⟩, [5]),
  (⟨some 7, .r (.ld (.tmp 1)), none⟩, [1]),
  (⟨some 8, .p (.mv (.tmp 0)), none⟩, [0]),
  (⟨some 9, .p (.iadS 1 (.tmp 8) (.const (.int .i64 2))), none⟩, [8]),
  (⟨some 10, .r (.ld (.tmp 9)), none⟩, [9]),
  (⟨some 11, .w (.call (.tmp 7) [(.tmp 10)]), none⟩, [7, 10]),
  (⟨some 12, .r (.ld (.tmp 1)), none⟩, [1]),
  (⟨some 13, .p (.mv (.tmp 0)), none⟩, [0]),
  (⟨some 14, .p (.iadS 1 (.tmp 13) (.const (.int .i64 3))), none⟩, [13]),
  (⟨some 15, .r (.ld (.tmp 14)), none⟩, [14]),
  (⟨some 16, .w (.call (.tmp 12) [(.tmp 15)]), none⟩, [12, 15]),
  (⟨some 17, .p (.build [.string ⟨#[]⟩, .int .i64 0, .int .i64 0, .int .i64 0, .bool false] [(0, 1, (.tmp 6)), (1, 1, (.tmp 11)), (2, 1, (.tmp 16))]), none⟩, [6, 11, 16]),
  (⟨some 18, .a (.box 193 (.tmp 17)), none⟩, [17]),
  (⟨some 19, .p (.mkI 111 (.tmp 18)), none⟩, [18]),
  (⟨some 3, .p (.mv (.tmp 19)), none⟩, [19])] [(2, [7, 12]), (8, [7]), (11, [7])])
 .ret))⟩
/- agonic/logbook.commands$6 -/
def c121 : IFunc := ⟨2, [.tmp 3],
(.seq (.reg [⟨some 3, .p (.mv (.const (.nilIface))), none⟩])
 (.seq (.regD [(⟨some 4, .p (.mv (.tmp 0)), none⟩, [0]),
  (⟨some 5, .p (.iadS 1 (.tmp 4) (.const (.int .i64 1))), none⟩, [4]),
  (⟨some 6, .r (.ld (.tmp 5)), none⟩, [5]),
  (⟨some 7, .r (.ld (.tmp 1)), none⟩, [1]),
  (⟨some 8, .p (.mv (.tmp 0)), none⟩, [0]),
  (⟨some 9, .p (.iadS 1 (.tmp 8) (.const (.int .i64 2))), none⟩, [8]),
  (⟨some 10, .r (.ld (.tmp 9)), none⟩, [9]),
  (⟨some 11, .w (.call (.tmp 7) [(.tmp 10)]), none⟩, [7, 10]),
  (⟨some 12, .p (.build [.string ⟨#[]⟩, .int .i64 0, .int .i64 0] [(0, 1, (.tmp 6)), (1, 1, (.tmp 11))]), none⟩, [6, 11]),
  (⟨some 13, .a (.box 114 (.tmp 12)), none⟩, [12]),
  (⟨some 14, .p (.mkI 112 (.tmp 13)), none⟩, [13]),
  (⟨some 3, .p (.mv (.tmp 14)), none⟩, [14])] [(2, [7])])
 .ret))⟩
/- agonic/logbook.commands$7 -/
def c122 : IFunc := ⟨1, [.tmp 2],
(.seq (.reg [⟨some 2, .p (.mv (.const (.nilIface))), none⟩])
 (.seq (.reg [⟨some 2, .p (.mv (.const (.nilIface))), none⟩])
 .ret))⟩
/- slices.IndexFunc[[]agonic/logbook.compass,agonic/logbook.compass] -/
def c123 : IFunc := ⟨2, [.tmp 4],
(.seq (.reg [⟨some 4, .p (.mv (.const (.int .i64 0))), none⟩])
 (.seqK [] (.seq (.reg [⟨some 6, .p (.mv (.tmp 0)), none⟩,
  ⟨some 7, .p (.lenV true (.tmp 6)), none⟩,
  ⟨some 8, .p (.mv (.const (.int .i64 0))), none⟩])
 (.block 0 (.loop [0, 1, 7, 8] (.seq (.reg [⟨some 9, .p (.bin .lss (.tmp 8) (.tmp 7)), none⟩])
 (.seqK [0, 1, 7, 8] (.cond (.tmp 9)
 .skip
 (.exit 0))
 (.seqK [0, 1, 7, 8] (.block 1 (.seq (.reg [⟨some 10, .p (.mv (.tmp 8)), none⟩,
  ⟨some 5, .p (.mv (.tmp 10)), none⟩])
 (.seq (.reg [⟨some 11, .p (.mv (.tmp 1)), none⟩,
  ⟨some 12, .p (.mv (.tmp 0)), none⟩,
  ⟨some 13, .p (.mv (.tmp 5)), none⟩,
  ⟨some 14, .p (.iadS 21 (.tmp 12) (.tmp 13)), none⟩,
  ⟨some 15, .r (.ldN 21 (.tmp 14)), none⟩,
  ⟨some 16, .w (.call (.tmp 11) [(.tmp 15)]), none⟩])
 (.cond (.tmp 16)
 (.seq (.reg [⟨some 17, .p (.mv (.tmp 5)), none⟩,
  ⟨some 4, .p (.mv (.tmp 17)), none⟩])
 .ret)
 .skip))))
 (.reg [⟨some 18, .p (.bin .add (.tmp 8) (.const (.int .i64 1))), none⟩,
  ⟨some 8, .p (.mv (.tmp 18)), none⟩])))))))
 (.seq (.reg [⟨some 4, .p (.mv (.const (.int .i64 (-1)))), none⟩])
 .ret)))⟩
/- (*agonic/logbook.office).find$1 -/
def c124 : IFunc := ⟨2, [.tmp 3],
(.seq (.reg [⟨some 2, .a (.box 120 (.tmp 0)), none⟩,
  ⟨some 3, .p (.mv (.const (.bool false))), none⟩])
 (.seq (.reg [⟨some 4, .p (.faddr 0 (.tmp 2)), none⟩,
  ⟨some 5, .r (.ld (.tmp 4)), none⟩,
  ⟨some 6, .r (.ld (.tmp 1)), none⟩,
  ⟨some 7, .p (.bin .eql (.tmp 5) (.tmp 6)), none⟩,
  ⟨some 3, .p (.mv (.tmp 7)), none⟩])
 .ret))⟩
/- internal/stringslite.HasPrefix -/
def c133 : IFunc := ⟨2, [.tmp 4],
(.seq (.reg [⟨some 4, .p (.mv (.const (.bool false))), none⟩])
 (.seq (.reg [⟨some 5, .p (.mv (.tmp 0)), none⟩,
  ⟨some 6, .p (.lenV false (.tmp 5)), none⟩,
  ⟨some 7, .p (.mv (.tmp 1)), none⟩,
  ⟨some 8, .p (.lenV false (.tmp 7)), none⟩,
  ⟨some 9, .p (.bin .geq (.tmp 6) (.tmp 8)), none⟩,
  ⟨some 10, .p (.mv (.tmp 9)), none⟩,
  ⟨some 11, .p (.mv (.tmp 0)), some (10, true)⟩,
  ⟨some 12, .p (.mv (.tmp 1)), some (10, true)⟩,
  ⟨some 13, .p (.lenV false (.tmp 12)), some (10, true)⟩,
  ⟨some 14, .p (.slStr (.tmp 11) none (some (.tmp 13))), some (10, true)⟩,
  ⟨some 15, .p (.mv (.tmp 1)), some (10, true)⟩,
  ⟨some 16, .p (.bin .eql (.tmp 14) (.tmp 15)), some (10, true)⟩,
  ⟨some 17, .p (.pick (.tmp 10) (.tmp 16) (.const (.bool false))), none⟩,
  ⟨some 4, .p (.mv (.tmp 17)), none⟩])
 .ret))⟩
/- internal/stringslite.TrimPrefix -/
def c134 : IFunc := ⟨2, [.tmp 4],
(.seq (.reg [⟨some 4, .p (.mv (.const (.string ⟨#[]⟩))), none⟩])
 (.seqK [0] (.seq (.reg [⟨some 5, .p (.mv (.tmp 0)), none⟩,
  ⟨some 6, .p (.mv (.tmp 1)), none⟩,
  ⟨some 7, .w (.call (.func 133) [(.tmp 5), (.tmp 6)]), none⟩])
 (.cond (.tmp 7)
 (.seq (.reg [⟨some 8, .p (.mv (.tmp 0)), none⟩,
  ⟨some 9, .p (.mv (.tmp 1)), none⟩,
  ⟨some 10, .p (.lenV false (.tmp 9)), none⟩,
  ⟨some 11, .p (.slStr (.tmp 8) (some (.tmp 10)) none), none⟩,
  ⟨some 4, .p (.mv (.tmp 11)), none⟩])
 .ret)
 .skip))
 (.seq (.reg [⟨some 12, .p (.mv (.tmp 0)), none⟩,
  ⟨some 4, .p (.mv (.tmp 12)), none⟩])
 .ret)))⟩
/- strings.IndexFunc -/
def c135 : IFunc := ⟨2, [.tmp 4],
(.seq (.reg [⟨some 4, .p (.mv (.const (.int .i64 0))), none⟩])
 (.seq (.reg [⟨some 5, .p (.mv (.tmp 0)), none⟩,
  ⟨some 6, .p (.mv (.tmp 1)), none⟩,
  ⟨some 7, .w (.call (.func 153) [(.tmp 5), (.tmp 6), (.const (.bool true))]), none⟩,
  ⟨some 4, .p (.mv (.tmp 7)), none⟩])
 .ret))⟩
/- slices.IndexFunc[[]byte,byte] -/
def c136 : IFunc := ⟨2, [.tmp 4],
(.seq (.reg [⟨some 4, .p (.mv (.const (.int .i64 0))), none⟩])
 (.seqK [] (.seq (.reg [⟨some 6, .p (.mv (.tmp 0)), none⟩,
  ⟨some 7, .p (.lenV true (.tmp 6)), none⟩,
  ⟨some 8, .p (.mv (.const (.int .i64 0))), none⟩])
 (.block 0 (.loop [0, 1, 7, 8] (.seq (.reg [⟨some 9, .p (.bin .lss (.tmp 8) (.tmp 7)), none⟩])
 (.seqK [0, 1, 7, 8] (.cond (.tmp 9)
 .skip
 (.exit 0))
 (.seqK [0, 1, 7, 8] (.block 1 (.seq (.reg [⟨some 10, .p (.mv (.tmp 8)), none⟩,
  ⟨some 5, .p (.mv (.tmp 10)), none⟩])
 (.seq (.reg [⟨some 11, .p (.mv (.tmp 1)), none⟩,
  ⟨some 12, .p (.mv (.tmp 0)), none⟩,
  ⟨some 13, .p (.mv (.tmp 5)), none⟩,
  ⟨some 14, .p (.iadS 1 (.tmp 12) (.tmp 13)), none⟩,
  ⟨some 15, .r (.ld (.tmp 14)), none⟩,
  ⟨some 16, .w (.call (.tmp 11) [(.tmp 15)]), none⟩])
 (.cond (.tmp 16)
 (.seq (.reg [⟨some 17, .p (.mv (.tmp 5)), none⟩,
  ⟨some 4, .p (.mv (.tmp 17)), none⟩])
 .ret)
 .skip))))
 (.reg [⟨some 18, .p (.bin .add (.tmp 8) (.const (.int .i64 1))), none⟩,
  ⟨some 8, .p (.mv (.tmp 18)), none⟩])))))))
 (.seq (.reg [⟨some 4, .p (.mv (.const (.int .i64 (-1)))), none⟩])
 .ret)))⟩
/- strings.indexFunc -/
def c153 : IFunc := ⟨3, [.tmp 6],
(.seq (.reg [⟨some 6, .p (.mv (.const (.int .i64 0))), none⟩])
 (.seqK [] (.seq (.reg [⟨some 9, .p (.mv (.tmp 0)), none⟩,
  ⟨some 10, .a (.rngS (.tmp 9)), none⟩])
 (.block 0 (.loop [1, 2, 10] (.seq (.reg [⟨some 11, .w (.nxtS (.tmp 10)), none⟩,
  ⟨some 12, .p (.ext (.tmp 11) 0), none⟩])
 (.seqK [1, 2, 10, 11] (.cond (.tmp 12)
 .skip
 (.exit 0))
 (.block 1 (.seq (.reg [⟨some 13, .p (.ext (.tmp 11) 1), none⟩,
  ⟨some 14, .p (.ext (.tmp 11) 2), none⟩,
  ⟨some 7, .p (.mv (.tmp 13)), none⟩,
  ⟨some 8, .p (.mv (.tmp 14)), none⟩])
 (.seq (.reg [⟨some 15, .p (.mv (.tmp 1)), none⟩,
  ⟨some 16, .p (.mv (.tmp 8)), none⟩,
  ⟨some 17, .w (.call (.tmp 15) [(.tmp 16)]), none⟩,
  ⟨some 18, .p (.mv (.tmp 2)), none⟩,
  ⟨some 19, .p (.eqs .b 4 false (.tmp 17) (.tmp 18)), none⟩])
 (.cond (.tmp 19)
 (.seq (.reg [⟨some 20, .p (.mv (.tmp 7)), none⟩,
  ⟨some 6, .p (.mv (.tmp 20)), none⟩])
 .ret)
 .skip)))))))))
 (.seq (.reg [⟨some 6, .p (.mv (.const (.int .i64 (-1)))), none⟩])
 .ret)))⟩
/- (*agonic/logbook.deviation).apply -/
def c185 : IFunc := ⟨2, [],
(.seq (.regD [(⟨some 5, .p (.mv (.tmp 1)), none⟩, [1]),
  (⟨some 6, .p (.nilc (.tmp 5)), none⟩, [5]),
  (⟨some 7, .p (.faddr 0 (.tmp 6)), none⟩, [6]),
  (⟨some 8, .r (.ld (.tmp 7)), none⟩, [7]),
  (⟨some 9, .p (.mv (.tmp 1)), none⟩, [1]),
  (⟨some 10, .p (.mv (.tmp 0)), none⟩, [0]),
  (⟨some 11, .p (.nilc (.tmp 10)), none⟩, [10]),
  (⟨some 12, .p (.faddr 0 (.tmp 11)), none⟩, [11]),
  (⟨some 13, .r (.ld (.tmp 12)), none⟩, [12]),
  (⟨some 14, .w (.call (.func 93) [(.tmp 9), (.tmp 13)]), none⟩, [9, 13]),
  (⟨some 15, .p (.iadS 21 (.tmp 8) (.tmp 14)), none⟩, [8, 14]),
  (⟨some 4, .p (.mv (.tmp 15)), none⟩, [15])] [(3, [9])])
 (.seq (.regD [(⟨some 16, .p (.mv (.tmp 0)), none⟩, [0]),
  (⟨some 17, .p (.mv (.tmp 0)), none⟩, [0]),
  (⟨some 18, .p (.mv (.tmp 4)), none⟩, [4]),
  (⟨some 19, .p (.mv (.tmp 0)), none⟩, [0]),
  (⟨some 20, .p (.nilc (.tmp 19)), none⟩, [19]),
  (⟨some 21, .p (.faddr 1 (.tmp 20)), none⟩, [20]),
  (⟨some 22, .r (.ld (.tmp 21)), none⟩, [21]),
  (⟨some 23, .p (.nilc (.tmp 18)), none⟩, [18]),
  (⟨some 24, .p (.faddr 5 (.tmp 23)), none⟩, [23]),
  (⟨some 25, .p (.iadA 8 1 (.tmp 24) (.tmp 22)), none⟩, [22, 24]),
  (⟨some 26, .r (.ld (.tmp 25)), none⟩, [25]),
  (⟨some 27, .p (.mv (.tmp 4)), none⟩, [4]),
  (⟨some 28, .p (.mv (.tmp 0)), none⟩, [0]),
  (⟨some 29, .p (.nilc (.tmp 28)), none⟩, [28]),
  (⟨some 30, .p (.faddr 1 (.tmp 29)), none⟩, [29]),
  (⟨some 31, .r (.ld (.tmp 30)), none⟩, [30]),
  (⟨some 32, .p (.nilc (.tmp 27)), none⟩, [27]),
  (⟨some 33, .p (.faddr 13 (.tmp 32)), none⟩, [32]),
  (⟨some 34, .p (.iadA 8 1 (.tmp 33) (.tmp 31)), none⟩, [31, 33]),
  (⟨some 35, .r (.ld (.tmp 34)), none⟩, [34]),
  (⟨some 36, .p (.nilc (.tmp 16)), none⟩, [16]),
  (⟨some 37, .p (.faddr 3 (.tmp 36)), none⟩, [36]),
  (⟨none, .w (.st 1 (.tmp 37) (.tmp 26)), none⟩, [26, 37]),
  (⟨some 38, .p (.nilc (.tmp 17)), none⟩, [17]),
  (⟨some 39, .p (.faddr 4 (.tmp 38)), none⟩, [38]),
  (⟨none, .w (.st 1 (.tmp 39) (.tmp 35)), none⟩, [35, 39])] [])
 (.regD [(⟨some 40, .p (.mv (.tmp 4)), none⟩, [4]),
  (⟨some 41, .p (.mv (.tmp 0)), none⟩, [0]),
  (⟨some 42, .p (.nilc (.tmp 41)), none⟩, [41]),
  (⟨some 43, .p (.faddr 1 (.tmp 42)), none⟩, [42]),
  (⟨some 44, .r (.ld (.tmp 43)), none⟩, [43]),
  (⟨some 45, .p (.mv (.tmp 4)), none⟩, [4]),
  (⟨some 46, .p (.mv (.tmp 0)), none⟩, [0]),
  (⟨some 47, .p (.nilc (.tmp 46)), none⟩, [46]),
  (⟨some 48, .p (.faddr 1 (.tmp 47)), none⟩, [47]),
  (⟨some 49, .r (.ld (.tmp 48)), none⟩, [48]),
  (⟨some 50, .p (.mv (.tmp 0)), none⟩, [0]),
  (⟨some 51, .p (.nilc (.tmp 50)), none⟩, [50]),
  (⟨some 52, .p (.faddr 2 (.tmp 51)), none⟩, [51]),
  (⟨some 53, .r (.ld (.tmp 52)), none⟩, [52]),
  (⟨some 54, .p (.nilc (.tmp 40)), none⟩, [40]),
  (⟨some 55, .p (.faddr 5 (.tmp 54)), none⟩, [54]),
  (⟨some 56, .p (.iadA 8 1 (.tmp 55) (.tmp 44)), none⟩, [44, 55]),
  (⟨none, .w (.st 1 (.tmp 56) (.tmp 53)), none⟩, [53, 56]),
  (⟨some 57, .p (.nilc (.tmp 45)), none⟩, [45]),
  (⟨some 58, .p (.faddr 13 (.tmp 57)), none⟩, [57]),
  (⟨some 59, .p (.iadA 8 1 (.tmp 58) (.tmp 49)), none⟩, [49, 58]),
  (⟨none, .w (.st 1 (.tmp 59) (.const (.bool true))), none⟩, [59])] [])))⟩
/- (*agonic/logbook.deviation).check -/
def c186 : IFunc := ⟨2, [.tmp 4],
(.seq (.reg [⟨some 4, .p (.mv (.const (.int .i64 0))), none⟩])
 (.seqK [] (.seq (.reg [⟨some 5, .p (.mv (.tmp 1)), none⟩,
  ⟨some 6, .p (.mv (.tmp 0)), none⟩,
  ⟨some 7, .p (.nilc (.tmp 6)), none⟩,
  ⟨some 8, .p (.faddr 0 (.tmp 7)), none⟩,
  ⟨some 9, .r (.ld (.tmp 8)), none⟩,
  ⟨some 10, .w (.call (.func 93) [(.tmp 5), (.tmp 9)]), none⟩,
  ⟨some 11, .p (.bin .lss (.tmp 10) (.const (.int .i64 0))), none⟩])
 (.cond (.tmp 11)
 (.seq (.reg [⟨some 4, .p (.mv (.const (.int .i64 6))), none⟩])
 .ret)
 .skip))
 (.seq (.reg [⟨some 4, .p (.mv (.const (.int .i64 0))), none⟩])
 .ret)))⟩
/- (*agonic/logbook.deviation).revert -/
def c187 : IFunc := ⟨2, [],
(.seq (.regD [(⟨some 5, .p (.mv (.tmp 1)), none⟩, [1]),
  (⟨some 6, .p (.nilc (.tmp 5)), none⟩, [5]),
  (⟨some 7, .p (.faddr 0 (.tmp 6)), none⟩, [6]),
  (⟨some 8, .r (.ld (.tmp 7)), none⟩, [7]),
  (⟨some 9, .p (.mv (.tmp 1)), none⟩, [1]),
  (⟨some 10, .p (.mv (.tmp 0)), none⟩, [0]),
  (⟨some 11, .p (.nilc (.tmp 10)), none⟩, [10]),
  (⟨some 12, .p (.faddr 0 (.tmp 11)), none⟩, [11]),
  (⟨some 13, .r (.ld (.tmp 12)), none⟩, [12]),
  (⟨some 14, .w (.call (.func 93) [(.tmp 9), (.tmp 13)]), none⟩, [9, 13]),
  (⟨some 15, .p (.iadS 21 (.tmp 8) (.tmp 14)), none⟩, [8, 14]),
  (⟨some 4, .p (.mv (.tmp 15)), none⟩, [15])] [(3, [9])])
 (.regD [(⟨some 16, .p (.mv (.tmp 4)), none⟩, [4]),
  (⟨some 17, .p (.mv (.tmp 0)), none⟩, [0]),
  (⟨some 18, .p (.nilc (.tmp 17)), none⟩, [17]),
  (⟨some 19, .p (.faddr 1 (.tmp 18)), none⟩, [18]),
  (⟨some 20, .r (.ld (.tmp 19)), none⟩, [19]),
  (⟨some 21, .p (.mv (.tmp 4)), none⟩, [4]),
  (⟨some 22, .p (.mv (.tmp 0)), none⟩, [0]),
  (⟨some 23, .p (.nilc (.tmp 22)), none⟩, [22]),
  (⟨some 24, .p (.faddr 1 (.tmp 23)), none⟩, [23]),
  (⟨some 25, .r (.ld (.tmp 24)), none⟩, [24]),
  (⟨some 26, .p (.mv (.tmp 0)), none⟩, [0]),
  (⟨some 27, .p (.nilc (.tmp 26)), none⟩, [26]),
  (⟨some 28, .p (.faddr 3 (.tmp 27)), none⟩, [27]),
  (⟨some 29, .r (.ld (.tmp 28)), none⟩, [28]),
  (⟨some 30, .p (.mv (.tmp 0)), none⟩, [0]),
  (⟨some 31, .p (.nilc (.tmp 30)), none⟩, [30]),
  (⟨some 32, .p (.faddr 4 (.tmp 31)), none⟩, [31]),
  (⟨some 33, .r (.ld (.tmp 32)), none⟩, [32]),
  (⟨some 34, .p (.nilc (.tmp 16)), none⟩, [16]),
  (⟨some 35, .p (.faddr 5 (.tmp 34)), none⟩, [34]),
  (⟨some 36, .p (.iadA 8 1 (.tmp 35) (.tmp 20)), none⟩, [20, 35]),
  (⟨none, .w (.st 1 (.tmp 36) (.tmp 29)), none⟩, [29, 36]),
  (⟨some 37, .p (.nilc (.tmp 21)), none⟩, [21]),
  (⟨some 38, .p (.faddr 13 (.tmp 37)), none⟩, [37]),
  (⟨some 39, .p (.iadA 8 1 (.tmp 38) (.tmp 25)), none⟩, [25, 38]),
  (⟨none, .w (.st 1 (.tmp 39) (.tmp 33)), none⟩, [33, 39])] []))⟩
/- (*agonic/logbook.repair).check -/
def c188 : IFunc := ⟨2, [.tmp 4],
(.seq (.reg [⟨some 4, .p (.mv (.const (.int .i64 0))), none⟩])
 (.seqK [] (.seq (.reg [⟨some 5, .p (.mv (.tmp 1)), none⟩,
  ⟨some 6, .p (.mv (.tmp 0)), none⟩,
  ⟨some 7, .p (.nilc (.tmp 6)), none⟩,
  ⟨some 8, .p (.faddr 0 (.tmp 7)), none⟩,
  ⟨some 9, .r (.ld (.tmp 8)), none⟩,
  ⟨some 10, .w (.call (.func 93) [(.tmp 5), (.tmp 9)]), none⟩,
  ⟨some 11, .p (.bin .lss (.tmp 10) (.const (.int .i64 0))), none⟩])
 (.cond (.tmp 11)
 (.seq (.reg [⟨some 4, .p (.mv (.const (.int .i64 6))), none⟩])
 .ret)
 .skip))
 (.seq (.reg [⟨some 4, .p (.mv (.const (.int .i64 0))), none⟩])
 .ret)))⟩
/- (*agonic/logbook.repair).revert -/
def c189 : IFunc := ⟨2, [],
(.seq (.reg [⟨some 5, .p (.mv (.tmp 1)), none⟩,
  ⟨some 6, .p (.mv (.tmp 0)), none⟩,
  ⟨some 7, .p (.nilc (.tmp 6)), none⟩,
  ⟨some 8, .p (.faddr 0 (.tmp 7)), none⟩,
  ⟨some 9, .r (.ld (.tmp 8)), none⟩,
  ⟨some 10, .w (.call (.func 93) [(.tmp 5), (.tmp 9)]), none⟩,
  ⟨some 4, .p (.mv (.tmp 10)), none⟩])
 (.seq (.regD [(⟨some 11, .p (.mv (.tmp 1)), none⟩, [1]),
  (⟨some 12, .p (.mv (.tmp 1)), none⟩, [1]),
  (⟨some 13, .p (.nilc (.tmp 12)), none⟩, [12]),
  (⟨some 14, .p (.faddr 1 (.tmp 13)), none⟩, [13]),
  (⟨some 15, .r (.ld (.tmp 14)), none⟩, [14]),
  (⟨some 16, .p (.mv (.tmp 1)), none⟩, [1]),
  (⟨some 17, .p (.nilc (.tmp 16)), none⟩, [16]),
  (⟨some 18, .p (.faddr 1 (.tmp 17)), none⟩, [17]),
  (⟨some 19, .r (.ld (.tmp 18)), none⟩, [18]),
  (⟨some 20, .p (.lenV true (.tmp 19)), none⟩, [19]),
  (⟨some 21, .p (.bin .sub (.tmp 20) (.const (.int .i64 1))), none⟩, [20]),
  (⟨some 22, .r (.slSl 116 2 (.tmp 15) none (some (.tmp 21)) none), none⟩, [15, 21]),
  (⟨some 23, .p (.nilc (.tmp 11)), none⟩, [11]),
  (⟨some 24, .p (.faddr 1 (.tmp 23)), none⟩, [23]),
  (⟨none, .w (.st 1 (.tmp 24) (.tmp 22)), none⟩, [22, 24])] [])
 (.seq (.regD [(⟨some 25, .p (.mv (.tmp 1)), none⟩, [1]),
  (⟨some 26, .p (.nilc (.tmp 25)), none⟩, [25]),
  (⟨some 27, .p (.faddr 1 (.tmp 26)), none⟩, [26]),
  (⟨some 28, .r (.ld (.tmp 27)), none⟩, [27]),
  (⟨some 29, .p (.mv (.tmp 0)), none⟩, [0]),
  (⟨some 30, .p (.nilc (.tmp 29)), none⟩, [29]),
  (⟨some 31, .p (.faddr 2 (.tmp 30)), none⟩, [30]),
  (⟨some 32, .r (.ld (.tmp 31)), none⟩, [31]),
  (⟨some 33, .p (.mv (.tmp 4)), none⟩, [4]),
  (⟨some 34, .p (.iadS 2 (.tmp 28) (.tmp 32)), none⟩, [28, 32]),
  (⟨some 35, .p (.faddr 0 (.tmp 34)), none⟩, [34]),
  (⟨none, .w (.st 1 (.tmp 35) (.tmp 33)), none⟩, [33, 35])] [])
 (.regD [(⟨some 36, .p (.mv (.tmp 1)), none⟩, [1]),
  (⟨some 37, .p (.nilc (.tmp 36)), none⟩, [36]),
  (⟨some 38, .p (.faddr 0 (.tmp 37)), none⟩, [37]),
  (⟨some 39, .r (.ld (.tmp 38)), none⟩, [38]),
  (⟨some 40, .p (.mv (.tmp 4)), none⟩, [4]),
  (⟨some 41, .p (.mv (.tmp 0)), none⟩, [0]),
  (⟨some 42, .p (.nilc (.tmp 41)), none⟩, [41]),
  (⟨some 43, .p (.faddr 1 (.tmp 42)), none⟩, [42]),
  (⟨some 44, .r (.ld (.tmp 43)), none⟩, [43]),
  (⟨some 45, .p (.mv (.tmp 0)), none⟩, [0]),
  (⟨some 46, .p (.nilc (.tmp 45)), none⟩, [45]),
  (⟨some 47, .p (.faddr 2 (.tmp 46)), none⟩, [46]),
  (⟨some 48, .r (.ld (.tmp 47)), none⟩, [47]),
  (⟨some 49, .p (.iadS 21 (.tmp 39) (.tmp 40)), none⟩, [39, 40]),
  (⟨some 50, .p (.faddr 1 (.tmp 49)), none⟩, [49]),
  (⟨some 51, .p (.iadA 4 1 (.tmp 50) (.tmp 44)), none⟩, [44, 50]),
  (⟨none, .w (.st 1 (.tmp 51) (.tmp 48)), none⟩, [48, 51])] []))))⟩
/- (*agonic/logbook.arrival).apply -/
def c191 : IFunc := ⟨2, [],
(.seq (.reg [⟨some 6, .p (.mv (.tmp 1)), none⟩,
  ⟨some 7, .p (.nilc (.tmp 6)), none⟩,
  ⟨some 8, .p (.faddr 0 (.tmp 7)), none⟩,
  ⟨some 9, .r (.ld (.tmp 8)), none⟩,
  ⟨some 10, .p (.lenV true (.tmp 9)), none⟩,
  ⟨some 4, .p (.mv (.tmp 10)), none⟩])
 (.seq (.regD [(⟨some 11, .p (.mv (.tmp 1)), none⟩, [1]),
  (⟨some 12, .p (.mv (.tmp 1)), none⟩, [1]),
  (⟨some 13, .p (.nilc (.tmp 12)), none⟩, [12]),
  (⟨some 14, .p (.faddr 0 (.tmp 13)), none⟩, [13]),
  (⟨some 15, .r (.ld (.tmp 14)), none⟩, [14]),
  (⟨some 16, .p (.mv (.tmp 0)), none⟩, [0]),
  (⟨some 17, .p (.nilc (.tmp 16)), none⟩, [16]),
  (⟨some 18, .p (.faddr 0 (.tmp 17)), none⟩, [17]),
  (⟨some 19, .r (.ld (.tmp 18)), none⟩, [18]),
  (⟨some 20, .p (.build [.string ⟨#[]⟩, .int .i64 0, .int .i64 0, .int .i64 0, .int .i64 0, .int .i64 0, .int .i64 0, .int .i64 0, .int .i64 0, .int .i64 0, .int .i64 0, .int .i64 0, .int .i64 0, .bool false, .bool false, .bool false, .bool false, .bool false, .bool false, .bool false, .bool false] [(0, 1, (.tmp 19))]), none⟩, [19]),
  (⟨some 21, .a (.mkSl 120 [.string ⟨#[]⟩, .int .i64 0, .int .i64 0, .int .i64 0, .int .i64 0, .int .i64 0, .int .i64 0, .int .i64 0, .int .i64 0, .int .i64 0, .int .i64 0, .int .i64 0, .int .i64 0, .bool false, .bool false, .bool false, .bool false, .bool false, .bool false, .bool false, .bool false] 1 [(0, 21, (.tmp 20))]), none⟩, [20]),
  (⟨some 22, .w (.app 120 21 120 (.tmp 15) (.tmp 21)), none⟩, [15, 21]),
  (⟨some 23, .p (.nilc (.tmp 11)), none⟩, [11]),
  (⟨some 24, .p (.faddr 0 (.tmp 23)), none⟩, [23]),
  (⟨none, .w (.st 1 (.tmp 24) (.tmp 22)), none⟩, [22, 24])] [])
 (.seq (.reg [⟨some 25, .p (.mv (.const (.int .i64 0))), none⟩])
 (.block 0 (.loop [1, 4, 25] (.seq (.reg [⟨some 26, .p (.bin .lss (.tmp 25) (.const (.int .i64 4))), none⟩])
 (.seqK [1, 4, 25] (.cond (.tmp 26)
 .skip
 (.exit 0))
 (.seqK [1, 4, 25] (.block 1 (.seq (.reg [⟨some 27, .p (.mv (.tmp 25)), none⟩,
  ⟨some 5, .p (.mv (.tmp 27)), none⟩])
 (.reg [⟨some 28, .p (.mv (.tmp 1)), none⟩,
  ⟨some 29, .p (.mv (.tmp 4)), none⟩,
  ⟨some 30, .p (.mv (.tmp 5)), none⟩,
  ⟨some 31, .p (.mv (.tmp 4)), none⟩,
  ⟨some 32, .w (.call (.func 94) [(.tmp 28), (.tmp 29), (.tmp 30), (.tmp 31)]), none⟩])))
 (.reg [⟨some 33, .p (.bin .add (.tmp 25) (.const (.int .i64 1))), none⟩,
  ⟨some 25, .p (.mv (.tmp 33)), none⟩])))))))))⟩
/- (*agonic/logbook.arrival).check -/
def c192 : IFunc := ⟨2, [.tmp 4],
(.seq (.reg [⟨some 4, .p (.mv (.const (.int .i64 0))), none⟩])
 (.seqK [] (.block 0 (.seq (.reg [⟨some 6, .p (.mv (.tmp 1)), none⟩,
  ⟨some 7, .p (.mv (.tmp 0)), none⟩,
  ⟨some 8, .p (.nilc (.tmp 7)), none⟩,
  ⟨some 9, .p (.faddr 0 (.tmp 8)), none⟩,
  ⟨some 10, .r (.ld (.tmp 9)), none⟩,
  ⟨some 11, .w (.call (.func 93) [(.tmp 6), (.tmp 10)]), none⟩,
  ⟨some 12, .p (.bin .geq (.tmp 11) (.const (.int .i64 0))), none⟩,
  ⟨some 5, .p (.mv (.tmp 12)), none⟩])
 (.cond (.tmp 5)
 (.seq (.reg [⟨some 4, .p (.mv (.const (.int .i64 7))), none⟩])
 .ret)
 (.seq (.reg [⟨some 14, .p (.mv (.tmp 1)), none⟩,
  ⟨some 15, .p (.nilc (.tmp 14)), none⟩,
  ⟨some 16, .p (.faddr 0 (.tmp 15)), none⟩,
  ⟨some 17, .r (.ld (.tmp 16)), none⟩,
  ⟨some 18, .p (.lenV true (.tmp 17)), none⟩,
  ⟨some 19, .p (.bin .eql (.tmp 18) (.const (.int .i64 8))), none⟩,
  ⟨some 13, .p (.mv (.tmp 19)), none⟩])
 (.cond (.tmp 13)
 (.seq (.reg [⟨some 4, .p (.mv (.const (.int .i64 3))), none⟩])
 .ret)
 .skip)))))
 (.seq (.reg [⟨some 4, .p (.mv (.const (.int .i64 0))), none⟩])
 .ret)))⟩
/- (*agonic/logbook.arrival).revert -/
def c193 : IFunc := ⟨2, [],
(.seq (.regD [(⟨some 4, .p (.mv (.tmp 1)), none⟩, [1]),
  (⟨some 5, .p (.mv (.tmp 1)), none⟩, [1]),
  (⟨some 6, .p (.nilc (.tmp 5)), none⟩, [5]),
  (⟨some 7, .p (.faddr 0 (.tmp 6)), none⟩, [6]),
  (⟨some 8, .r (.ld (.tmp 7)), none⟩, [7]),
  (⟨some 9, .p (.mv (.tmp 1)), none⟩, [1]),
  (⟨some 10, .p (.nilc (.tmp 9)), none⟩, [9]),
  (⟨some 11, .p (.faddr 0 (.tmp 10)), none⟩, [10]),
  (⟨some 12, .r (.ld (.tmp 11)), none⟩, [11]),
  (⟨some 13, .p (.lenV true (.tmp 12)), none⟩, [12]),
  (⟨some 14, .p (.bin .sub (.tmp 13) (.const (.int .i64 1))), none⟩, [13]),
  (⟨some 15, .r (.slSl 120 21 (.tmp 8) none (some (.tmp 14)) none), none⟩, [8, 14]),
  (⟨some 16, .p (.nilc (.tmp 4)), none⟩, [4]),
  (⟨some 17, .p (.faddr 0 (.tmp 16)), none⟩, [16]),
  (⟨none, .w (.st 1 (.tmp 17) (.tmp 15)), none⟩, [15, 17])] [])
 (.regD [(⟨some 18, .p (.mv (.tmp 1)), none⟩, [1]),
  (⟨some 19, .p (.mv (.tmp 1)), none⟩, [1]),
  (⟨some 20, .p (.nilc (.tmp 19)), none⟩, [19]),
  (⟨some 21, .p (.faddr 1 (.tmp 20)), none⟩, [20]),
  (⟨some 22, .r (.ld (.tmp 21)), none⟩, [21]),
  (⟨some 23, .p (.mv (.tmp 1)), none⟩, [1]),
  (⟨some 24, .p (.nilc (.tmp 23)), none⟩, [23]),
  (⟨some 25, .p (.faddr 1 (.tmp 24)), none⟩, [24]),
  (⟨some 26, .r (.ld (.tmp 25)), none⟩, [25]),
  (⟨some 27, .p (.lenV true (.tmp 26)), none⟩, [26]),
  (⟨some 28, .p (.bin .sub (.tmp 27) (.const (.int .i64 4))), none⟩, [27]),
  (⟨some 29, .r (.slSl 116 2 (.tmp 22) none (some (.tmp 28)) none), none⟩, [22, 28]),
  (⟨some 30, .p (.nilc (.tmp 18)), none⟩, [18]),
  (⟨some 31, .p (.faddr 1 (.tmp 30)), none⟩, [30]),
  (⟨none, .w (.st 1 (.tmp 31) (.tmp 29)), none⟩, [29, 31])] []))⟩
/- (*agonic/logbook.exchange).apply -/
def c194 : IFunc := ⟨2, [],
(.seq (.regD [(⟨some 8, .p (.mv (.tmp 1)), none⟩, [1]),
  (⟨some 9, .p (.mv (.tmp 0)), none⟩, [0]),
  (⟨some 10, .p (.nilc (.tmp 9)), none⟩, [9]),
  (⟨some 11, .p (.faddr 0 (.tmp 10)), none⟩, [10]),
  (⟨some 12, .r (.ld (.tmp 11)), none⟩, [11]),
  (⟨some 13, .w (.call (.func 93) [(.tmp 8), (.tmp 12)]), none⟩, [8, 12]),
  (⟨some 14, .p (.mv (.tmp 1)), none⟩, [1]),
  (⟨some 15, .p (.mv (.tmp 0)), none⟩, [0]),
  (⟨some 16, .p (.nilc (.tmp 15)), none⟩, [15]),
  (⟨some 17, .p (.faddr 1 (.tmp 16)), none⟩, [16]),
  (⟨some 18, .r (.ld (.tmp 17)), none⟩, [17]),
  (⟨some 19, .w (.call (.func 93) [(.tmp 14), (.tmp 18)]), none⟩, [14, 18]),
  (⟨some 4, .p (.mv (.tmp 13)), none⟩, [13]),
  (⟨some 5, .p (.mv (.tmp 19)), none⟩, [19])] [(10, [5])])
 (.seq (.regD [(⟨some 20, .p (.mv (.tmp 1)), none⟩, [1]),
  (⟨some 21, .p (.nilc (.tmp 20)), none⟩, [20]),
  (⟨some 22, .p (.faddr 0 (.tmp 21)), none⟩, [21]),
  (⟨some 23, .r (.ld (.tmp 22)), none⟩, [22]),
  (⟨some 24, .p (.mv (.tmp 4)), none⟩, [4]),
  (⟨some 25, .p (.mv (.tmp 0)), none⟩, [0]),
  (⟨some 26, .p (.nilc (.tmp 25)), none⟩, [25]),
  (⟨some 27, .p (.faddr 2 (.tmp 26)), none⟩, [26]),
  (⟨some 28, .r (.ld (.tmp 27)), none⟩, [27]),
  (⟨some 29, .p (.iadS 21 (.tmp 23) (.tmp 24)), none⟩, [23, 24]),
  (⟨some 30, .p (.faddr 1 (.tmp 29)), none⟩, [29]),
  (⟨some 31, .p (.iadA 4 1 (.tmp 30) (.tmp 28)), none⟩, [28, 30]),
  (⟨some 32, .p (.mv (.tmp 1)), none⟩, [1]),
  (⟨some 33, .p (.nilc (.tmp 32)), none⟩, [32]),
  (⟨some 34, .p (.faddr 0 (.tmp 33)), none⟩, [33]),
  (⟨some 35, .r (.ld (.tmp 34)), none⟩, [34]),
  (⟨some 36, .p (.mv (.tmp 5)), none⟩, [5]),
  (⟨some 37, .p (.mv (.tmp 0)), none⟩, [0]),
  (⟨some 38, .p (.nilc (.tmp 37)), none⟩, [37]),
  (⟨some 39, .p (.faddr 2 (.tmp 38)), none⟩, [38]),
  (⟨some 40, .r (.ld (.tmp 39)), none⟩, [39]),
  (⟨some 41, .p (.iadS 21 (.tmp 35) (.tmp 36)), none⟩, [35, 36]),
  (⟨some 42, .p (.faddr 1 (.tmp 41)), none⟩, [41]),
  (⟨some 43, .p (.iadA 4 1 (.tmp 42) (.tmp 40)), none⟩, [40, 42]),
  (⟨some 6, .p (.mv (.tmp 31)), none⟩, [31]),
  (⟨some 7, .p (.mv (.tmp 43)), none⟩, [43])] [])
 (.seq (.regD [(⟨some 44, .p (.mv (.tmp 6)), none⟩, [6]),
  (⟨some 45, .p (.mv (.tmp 7)), none⟩, [7]),
  (⟨some 46, .p (.mv (.tmp 7)), none⟩, [7]),
  (⟨some 47, .p (.nilc (.tmp 46)), none⟩, [46]),
  (⟨some 48, .r (.ld (.tmp 47)), none⟩, [47]),
  (⟨some 49, .p (.mv (.tmp 6)), none⟩, [6]),
  (⟨some 50, .p (.nilc (.tmp 49)), none⟩, [49]),
  (⟨some 51, .r (.ld (.tmp 50)), none⟩, [50]),
  (⟨some 52, .p (.nilc (.tmp 44)), none⟩, [44]),
  (⟨none, .w (.st 1 (.tmp 52) (.tmp 48)), none⟩, [48, 52]),
  (⟨some 53, .p (.nilc (.tmp 45)), none⟩, [45]),
  (⟨none, .w (.st 1 (.tmp 53) (.tmp 51)), none⟩, [51, 53])] [])
 (.regD [(⟨some 54, .p (.mv (.tmp 1)), none⟩, [1]),
  (⟨some 55, .p (.nilc (.tmp 54)), none⟩, [54]),
  (⟨some 56, .p (.faddr 1 (.tmp 55)), none⟩, [55]),
  (⟨some 57, .r (.ld (.tmp 56)), none⟩, [56]),
  (⟨some 58, .p (.mv (.tmp 6)), none⟩, [6]),
  (⟨some 59, .p (.nilc (.tmp 58)), none⟩, [58]),
  (⟨some 60, .r (.ld (.tmp 59)), none⟩, [59]),
  (⟨some 61, .p (.mv (.tmp 1)), none⟩, [1]),
  (⟨some 62, .p (.nilc (.tmp 61)), none⟩, [61]),
  (⟨some 63, .p (.faddr 1 (.tmp 62)), none⟩, [62]),
  (⟨some 64, .r (.ld (.tmp 63)), none⟩, [63]),
  (⟨some 65, .p (.mv (.tmp 7)), none⟩, [7]),
  (⟨some 66, .p (.nilc (.tmp 65)), none⟩, [65]),
  (⟨some 67, .r (.ld (.tmp 66)), none⟩, [66]),
  (⟨some 68, .p (.mv (.tmp 4)), none⟩, [4]),
  (⟨some 69, .p (.mv (.tmp 5)), none⟩, [5]),
  (⟨some 70, .p (.iadS 2 (.tmp 57) (.tmp 60)), none⟩, [57, 60]),
  (⟨some 71, .p (.faddr 0 (.tmp 70)), none⟩, [70]),
  (⟨none, .w (.st 1 (.tmp 71) (.tmp 68)), none⟩, [68, 71]),
  (⟨some 72, .p (.iadS 2 (.tmp 64) (.tmp 67)), none⟩, [64, 67]),
  (⟨some 73, .p (.faddr 0 (.tmp 72)), none⟩, [72]),
  (⟨none, .w (.st 1 (.tmp 73) (.tmp 69)), none⟩, [69, 73])] []))))⟩
/- (*agonic/logbook.exchange).check -/
def c195 : IFunc := ⟨2, [.tmp 4],
(.seq (.reg [⟨some 4, .p (.mv (.const (.int .i64 0))), none⟩])
 (.seqK [] (.block 0 (.seq (.reg [⟨some 6, .p (.mv (.tmp 1)), none⟩,
  ⟨some 7, .p (.mv (.tmp 0)), none⟩,
  ⟨some 8, .p (.nilc (.tmp 7)), none⟩,
  ⟨some 9, .p (.faddr 0 (.tmp 8)), none⟩,
  ⟨some 10, .r (.ld (.tmp 9)), none⟩,
  ⟨some 11, .w (.call (.func 93) [(.tmp 6), (.tmp 10)]), none⟩,
  ⟨some 12, .p (.bin .lss (.tmp 11) (.const (.int .i64 0))), none⟩,
  ⟨some 13, .p (.mv (.tmp 12)), none⟩,
  ⟨some 14, .p (.mv (.tmp 1)), some (13, false)⟩,
  ⟨some 15, .p (.mv (.tmp 0)), some (13, false)⟩,
  ⟨some 16, .p (.nilc (.tmp 15)), some (13, false)⟩,
  ⟨some 17, .p (.faddr 1 (.tmp 16)), some (13, false)⟩,
  ⟨some 18, .r (.ld (.tmp 17)), some (13, false)⟩,
  ⟨some 19, .w (.call (.func 93) [(.tmp 14), (.tmp 18)]), some (13, false)⟩,
  ⟨some 20, .p (.bin .lss (.tmp 19) (.const (.int .i64 0))), some (13, false)⟩,
  ⟨some 21, .p (.pick (.tmp 13) (.const (.bool true)) (.tmp 20)), none⟩,
  ⟨some 5, .p (.mv (.tmp 21)), none⟩])
 (.cond (.tmp 5)
 (.seq (.reg [⟨some 4, .p (.mv (.const (.int .i64 6))), none⟩])
 .ret)
 (.seq (.regD [(⟨some 23, .p (.mv (.tmp 0)), none⟩, [0]),
  (⟨some 24, .p (.nilc (.tmp 23)), none⟩, [23]),
  (⟨some 25, .p (.faddr 0 (.tmp 24)), none⟩, [24]),
  (⟨some 26, .r (.ld (.tmp 25)), none⟩, [25]),
  (⟨some 27, .p (.mv (.tmp 0)), none⟩, [0]),
  (⟨some 28, .p (.nilc (.tmp 27)), none⟩, [27]),
  (⟨some 29, .p (.faddr 1 (.tmp 28)), none⟩, [28]),
  (⟨some 30, .r (.ld (.tmp 29)), none⟩, [29]),
  (⟨some 31, .p (.bin .eql (.tmp 26) (.tmp 30)), none⟩, [26, 30]),
  (⟨some 22, .p (.mv (.tmp 31)), none⟩, [31])] [])
 (.cond (.tmp 22)
 (.seq (.reg [⟨some 4, .p (.mv (.const (.int .i64 7))), none⟩])
 .ret)
 .skip)))))
 (.seq (.reg [⟨some 4, .p (.mv (.const (.int .i64 0))), none⟩])
 .ret)))⟩
/- (*agonic/logbook.exchange).revert -/
def c196 : IFunc := ⟨2, [],
(.reg [⟨some 4, .p (.mv (.tmp 0)), none⟩,
  ⟨some 5, .p (.mv (.tmp 1)), none⟩,
  ⟨some 6, .w (.call (.func 194) [(.tmp 4), (.tmp 5)]), none⟩])⟩
def meths : MT := [(111, "agonic/logbook.apply", 185), (111, "agonic/logbook.check", 186), (111, "agonic/logbook.revert", 187), (112, "agonic/logbook.apply", 57), (112, "agonic/logbook.check", 188), (112, "agonic/logbook.revert", 189), (186, "agonic/logbook.apply", 191), (186, "agonic/logbook.check", 192), (186, "agonic/logbook.revert", 193), (189, "agonic/logbook.apply", 194), (189, "agonic/logbook.check", 195), (189, "agonic/logbook.revert", 196)]
end Go.Im
