/-
  The document's answers of nodes, and trees by few bytes: their walks; no condition.
-/
import Derived.Test.YtoomnhcglmnajaaGreatDoorAvThree
import Derived.Test.YtoomnhcglmnajaaGreatDoorAvNine
import Derived.KernelRfl
import Derived.Test.YtoomnhcglmnajaaGreatDoorProg
set_option linter.unusedVariables false
set_option linter.unusedSimpArgs false
namespace Go.Av
open Go.RowKit Go.Proofs.Tryz

def imm40 : Nat → Bool := fun t => ([] : List Nat).contains t
def r40_l0 : RC := (.seq (.seq (.reg [om 11 5, om 12 0, oo 13 (.len (.t 12)), oo 14 (.bin .lss (.t 11) (.t 13))]) (.cond (.t 14) .skip (.exit 0))) (.seq (.block 1 (.seq (.dreg [(om 17 0, true), (om 18 5, true), (oo 19 (.iaddr 2 (.t 17) (.t 18)), true), (oo 20 (.load true 2 (.t 19)), true), (om 21 1, true), (om 22 5, true), (oo 23 (.iaddr 2 (.t 21) (.t 22)), true), (oo 24 (.load true 2 (.t 23)), true), (oo 25 (.bins true [0, 0] (.t 20) (.t 24)), true)]) (.cond (.t 25) (.seq (.reg [oo 4 (.mov (.c (.bool false)))]) .ret) .skip))) (.reg [om 15 5, oo 16 (.bin .add (.t 15) (ci 1)), om 5 16])))
def r40 : RF := ⟨26, [(.tmp 4)], (.seq (.reg [oo 4 (.mov (.c (.bool false)))]) (.seq (.seq (.reg [om 6 0, oo 7 (.len (.t 6)), om 8 1, oo 9 (.len (.t 8)), oo 10 (.bin .neq (.t 7) (.t 9))]) (.cond (.t 10) (.seq (.reg [oo 4 (.mov (.c (.bool false)))]) .ret) .skip)) (.seq (.seq (.reg [oo 5 (.mov (ci 0))]) (.block 0 (.loop r40_l0))) (.seq (.reg [oo 4 (.mov (.c (.bool true)))]) .ret))))⟩
theorem r40_ok : rsvF prog 40 imm40 = some r40 := by kernel_rfl

def imm17 : Nat → Bool := fun t => ([2, 3, 53, 73] : List Nat).contains t
def r17_l0 : RC := (.seq (.seq (.reg [om 56 5, oh 57 6 2, ol 58 57, oo 59 (.len (.t 58)), oo 60 (.bin .lss (.t 56) (.t 59))]) (.cond (.t 60) .skip (.exit 0))) (.seq (.block 1 (.seq (.dreg [(oh 63 6 2, true), (ol 64 63, true), (om 65 5, true), (oo 66 (.iaddr 7 (.t 64) (.t 65)), true), (oo 67 (.load true 7 (.t 66)), true), (oh 68 6 3, true), (ol 69 68, true), (om 70 5, true), (oo 71 (.iaddr 7 (.t 69) (.t 70)), true), (oo 72 (.load true 7 (.t 71)), true), (oo 73 (.call 17 [(.t 67), (.t 72)]), false), (oo 74 (.not (.t 73)), true)]) (.cond (.t 74) (.seq (.reg [oo 4 (.mov (.c (.bool false)))]) .ret) .skip))) (.reg [om 61 5, oo 62 (.bin .add (.t 61) (ci 1)), om 5 62])))
def r17 : RF := ⟨75, [(.tmp 4)], (.seq (.reg [oo 2 (.box true 7 (.t 0)), oo 3 (.box true 7 (.t 1)), oo 4 (.mov (.c (.bool false)))]) (.seq (.seq (.reg [oh 6 0 2, ol 7 6, oh 8 0 3, ol 9 8, oo 10 (.bin .neq (.t 7) (.t 9)), om 11 10, og 12 (.faddr 2 (.t 2)) 11 false, og 13 (.load false 1 (.t 12)) 11 false, og 14 (.faddr 2 (.t 3)) 11 false, og 15 (.load false 1 (.t 14)) 11 false, og 16 (.bin .neq (.t 13) (.t 15)) 11 false, oo 17 (.pick (.t 11) (.c (.bool true)) (.t 16)), om 18 17, og 19 (.faddr 3 (.t 2)) 18 false, og 20 (.load false 1 (.t 19)) 18 false, og 21 (.faddr 3 (.t 3)) 18 false, og 22 (.load false 1 (.t 21)) 18 false, og 23 (.bin .neq (.t 20) (.t 22)) 18 false, oo 24 (.pick (.t 18) (.c (.bool true)) (.t 23)), om 25 24, og 26 (.faddr 4 (.t 2)) 25 false, og 27 (.load false 1 (.t 26)) 25 false, og 28 (.faddr 4 (.t 3)) 25 false, og 29 (.load false 1 (.t 28)) 25 false, og 30 (.binb .neq (.t 27) (.t 29)) 25 false, oo 31 (.pick (.t 25) (.c (.bool true)) (.t 30)), om 32 31, og 33 (.faddr 5 (.t 2)) 32 false, og 34 (.load false 1 (.t 33)) 32 false, og 35 (.faddr 5 (.t 3)) 32 false, og 36 (.load false 1 (.t 35)) 32 false, og 37 (.bin .neq (.t 34) (.t 36)) 32 false, oo 38 (.pick (.t 32) (.c (.bool true)) (.t 37)), om 39 38, og 40 (.faddr 6 (.t 2)) 39 false, og 41 (.load false 1 (.t 40)) 39 false, og 42 (.len (.t 41)) 39 false, og 43 (.faddr 6 (.t 3)) 39 false, og 44 (.load false 1 (.t 43)) 39 false, og 45 (.len (.t 44)) 39 false, og 46 (.bin .neq (.t 42) (.t 45)) 39 false, oo 47 (.pick (.t 39) (.c (.bool true)) (.t 46)), om 48 47, og 49 (.faddr 1 (.t 2)) 48 false, og 50 (.load false 1 (.t 49)) 48 false, og 51 (.faddr 1 (.t 3)) 48 false, og 52 (.load false 1 (.t 51)) 48 false, og 53 (.call 40 [(.t 50), (.t 52)]) 48 false, og 54 (.not (.t 53)) 48 false, oo 55 (.pick (.t 48) (.c (.bool true)) (.t 54))]) (.cond (.t 55) (.seq (.reg [oo 4 (.mov (.c (.bool false)))]) .ret) .skip)) (.seq (.seq (.reg [oo 5 (.mov (ci 0))]) (.block 0 (.loop r17_l0))) (.seq (.reg [oo 4 (.mov (.c (.bool true)))]) .ret))))⟩
theorem r17_ok : rsvF prog 17 imm17 = some r17 := by kernel_rfl

def imm66 : Nat → Bool := fun t => ([1] : List Nat).contains t
def r66 : RF := ⟨18, [(.tmp 2)], (.seq (.reg [oo 1 (.box true 2 (.t 0)), oo 2 (.mov (.c (.bool false)))]) (.seq (.reg [oh 3 0 1, ol 4 3, oo 5 (.bin .geq (.t 4) (.c (.int .i32 (0)))), om 6 5, og 7 (.faddr 1 (.t 1)) 6 true, og 8 (.load false 1 (.t 7)) 6 true, og 9 (.bin .leq (.t 8) (.c (.int .i32 (1114111)))) 6 true, oo 10 (.pick (.t 6) (.t 9) (.c (.bool false))), om 11 10, og 12 (.faddr 0 (.t 1)) 11 true, og 13 (.load false 1 (.t 12)) 11 true, og 14 (.faddr 1 (.t 1)) 11 true, og 15 (.load false 1 (.t 14)) 11 true, og 16 (.bin .leq (.t 13) (.t 15)) 11 true, oo 17 (.pick (.t 11) (.t 16) (.c (.bool false))), om 2 17]) .ret))⟩
theorem r66_ok : rsvF prog 66 imm66 = some r66 := by kernel_rfl

def imm44 : Nat → Bool := fun t => ([17] : List Nat).contains t
def r44_l0 : RC := (.seq (.seq (.reg [om 7 3, om 8 0, oo 9 (.len (.t 8)), oo 10 (.bin .lss (.t 7) (.t 9))]) (.cond (.t 10) .skip (.exit 0))) (.seq (.block 1 (.seq (.dreg [(om 13 0, true), (om 14 3, true), (oo 15 (.iaddr 2 (.t 13) (.t 14)), true), (oo 16 (.load true 2 (.t 15)), true), (oo 17 (.call 66 [(.t 16)]), false), (oo 18 (.not (.t 17)), true), (om 19 18, true), (og 20 (.mov (.t 3)) 19 false, true), (og 21 (.bin .gtr (.t 20) (ci 0)) 19 false, true), (og 22 (.mov (.t 21)) 19 false, true), (og 23 (.mov (.t 0)) 22 true, true), (og 24 (.mov (.t 3)) 22 true, true), (og 25 (.iaddr 2 (.t 23) (.t 24)) 22 true, true), (og 26 (.faddr 0 (.t 25)) 22 true, true), (og 27 (.load false 1 (.t 26)) 22 true, true), (og 28 (.mov (.t 0)) 22 true, true), (og 29 (.mov (.t 3)) 22 true, true), (og 30 (.bin .sub (.t 29) (ci 1)) 22 true, true), (og 31 (.iaddr 2 (.t 28) (.t 30)) 22 true, true), (og 32 (.faddr 1 (.t 31)) 22 true, true), (og 33 (.load false 1 (.t 32)) 22 true, true), (og 34 (.bin .add (.t 33) (.c (.int .i32 (1)))) 22 true, true), (og 35 (.bin .leq (.t 27) (.t 34)) 22 true, true), (og 36 (.pick (.t 22) (.t 35) (.c (.bool false))) 19 false, true), (oo 37 (.pick (.t 19) (.c (.bool true)) (.t 36)), true)]) (.cond (.t 37) (.seq (.reg [oo 2 (.mov (.c (.bool false)))]) .ret) .skip))) (.reg [om 11 3, oo 12 (.bin .add (.t 11) (ci 1)), om 3 12])))
def r44 : RF := ⟨38, [(.tmp 2)], (.seq (.reg [oo 2 (.mov (.c (.bool false)))]) (.seq (.seq (.reg [om 4 0, oo 5 (.len (.t 4)), oo 6 (.bin .gtr (.t 5) (ci 64))]) (.cond (.t 6) (.seq (.reg [oo 2 (.mov (.c (.bool false)))]) .ret) .skip)) (.seq (.seq (.reg [oo 3 (.mov (ci 0))]) (.block 0 (.loop r44_l0))) (.seq (.reg [oo 2 (.mov (.c (.bool true)))]) .ret))))⟩
theorem r44_ok : rsvF prog 44 imm44 = some r44 := by kernel_rfl

def imm19 : Nat → Bool := fun t => ([1, 16, 39] : List Nat).contains t
def r19_l0 : RC := (.seq (.seq (.reg [om 4 3, oh 5 6 1, ol 6 5, oo 7 (.len (.t 6)), oo 8 (.bin .lss (.t 4) (.t 7))]) (.cond (.t 8) .skip (.exit 0))) (.seq (.block 1 (.seq (.reg [oh 11 6 1, ol 12 11, om 13 3, oo 14 (.iaddr 7 (.t 12) (.t 13)), oo 15 (.load true 7 (.t 14)), oo 16 (.call 19 [(.t 15)]), oo 17 (.not (.t 16))]) (.cond (.t 17) (.seq (.reg [oo 2 (.mov (.c (.bool false)))]) .ret) .skip))) (.reg [om 9 3, oo 10 (.bin .add (.t 9) (ci 1)), om 3 10])))
def r19 : RF := ⟨125, [(.tmp 2)], (.seq (.reg [oo 1 (.box true 7 (.t 0)), oo 2 (.mov (.c (.bool false)))]) (.seq (.seq (.reg [oo 3 (.mov (ci 0))]) (.block 0 (.loop r19_l0))) (.seq (.seq (.reg [oh 18 0 1, ol 19 18, oo 20 (.bin .lss (.t 19) (ci 0)), om 21 20, og 22 (.faddr 0 (.t 1)) 21 false, og 23 (.load false 1 (.t 22)) 21 false, og 24 (.bin .gtr (.t 23) (ci 9)) 21 false, oo 25 (.pick (.t 21) (.c (.bool true)) (.t 24)), om 26 25, og 27 (.faddr 1 (.t 1)) 26 false, og 28 (.load false 1 (.t 27)) 26 false, og 29 (.len (.t 28)) 26 false, og 30 (.bin .gtr (.t 29) (ci 0)) 26 false, og 31 (.faddr 0 (.t 1)) 26 false, og 32 (.load false 1 (.t 31)) 26 false, og 33 (.bin .eql (.t 32) (ci 1)) 26 false, og 34 (.binb .neq (.t 30) (.t 33)) 26 false, oo 35 (.pick (.t 26) (.c (.bool true)) (.t 34)), om 36 35, og 37 (.faddr 1 (.t 1)) 36 false, og 38 (.load false 1 (.t 37)) 36 false, og 39 (.call 44 [(.t 38)]) 36 false, og 40 (.not (.t 39)) 36 false, oo 41 (.pick (.t 36) (.c (.bool true)) (.t 40))]) (.cond (.t 41) (.seq (.reg [oo 2 (.mov (.c (.bool false)))]) .ret) .skip)) (.seq (.seq (.reg [oh 42 0 1, ol 43 42, oo 44 (.bin .eql (.t 43) (ci 8))]) (.cond (.t 44) (.seq (.reg [oh 45 2 1, ol 46 45, oo 47 (.bin .lss (.t 46) (ci 0)), om 48 47, og 49 (.faddr 2 (.t 1)) 48 false, og 50 (.load false 1 (.t 49)) 48 false, og 51 (.bin .gtr (.t 50) (ci 20)) 48 false, oo 52 (.pick (.t 48) (.c (.bool true)) (.t 51)), om 53 52, og 54 (.faddr 3 (.t 1)) 53 false, og 55 (.load false 1 (.t 54)) 53 false, og 56 (.bin .neq (.t 55) (ci (-1))) 53 false, og 57 (.mov (.t 56)) 53 false, og 58 (.faddr 3 (.t 1)) 57 true, og 59 (.load false 1 (.t 58)) 57 true, og 60 (.faddr 2 (.t 1)) 57 true, og 61 (.load false 1 (.t 60)) 57 true, og 62 (.bin .lss (.t 59) (.t 61)) 57 true, og 63 (.mov (.t 62)) 57 true, og 64 (.faddr 3 (.t 1)) 63 false, og 65 (.load false 1 (.t 64)) 63 false, og 66 (.bin .gtr (.t 65) (ci 20)) 63 false, og 67 (.pick (.t 63) (.c (.bool true)) (.t 66)) 57 true, og 68 (.pick (.t 57) (.t 67) (.c (.bool false))) 53 false, oo 69 (.pick (.t 53) (.c (.bool true)) (.t 68))]) (.cond (.t 69) (.seq (.reg [oo 2 (.mov (.c (.bool false)))]) .ret) .skip)) (.seq (.reg [oh 70 2 1, ol 71 70, oo 72 (.bin .neq (.t 71) (ci 0)), om 73 72, og 74 (.faddr 3 (.t 1)) 73 false, og 75 (.load false 1 (.t 74)) 73 false, og 76 (.bin .neq (.t 75) (ci 0)) 73 false, oo 77 (.pick (.t 73) (.c (.bool true)) (.t 76)), om 78 77, og 79 (.faddr 4 (.t 1)) 78 false, og 80 (.load false 1 (.t 79)) 78 false, oo 81 (.pick (.t 78) (.c (.bool true)) (.t 80))]) (.cond (.t 81) (.seq (.reg [oo 2 (.mov (.c (.bool false)))]) .ret) .skip)))) (.seq (.seq (.reg [oh 82 0 1, ol 83 82, oo 84 (.bin .eql (.t 83) (ci 9)), om 85 84, og 86 (.faddr 5 (.t 1)) 85 true, og 87 (.load false 1 (.t 86)) 85 true, og 88 (.bin .lss (.t 87) (ci 1)) 85 true, og 89 (.mov (.t 88)) 85 true, og 90 (.faddr 5 (.t 1)) 89 false, og 91 (.load false 1 (.t 90)) 89 false, og 92 (.bin .gtr (.t 91) (ci 8)) 89 false, og 93 (.pick (.t 89) (.c (.bool true)) (.t 92)) 85 true, oo 94 (.pick (.t 85) (.t 93) (.c (.bool false))), om 95 94, og 96 (.faddr 0 (.t 1)) 95 false, og 97 (.load false 1 (.t 96)) 95 false, og 98 (.bin .neq (.t 97) (ci 9)) 95 false, og 99 (.mov (.t 98)) 95 false, og 100 (.faddr 5 (.t 1)) 99 true, og 101 (.load false 1 (.t 100)) 99 true, og 102 (.bin .neq (.t 101) (ci 0)) 99 true, og 103 (.pick (.t 99) (.t 102) (.c (.bool false))) 95 false, oo 104 (.pick (.t 95) (.c (.bool true)) (.t 103))]) (.cond (.t 104) (.seq (.reg [oo 2 (.mov (.c (.bool false)))]) .ret) .skip)) (.seq (.seq (.reg [oh 105 0 1, ol 106 105]) (.block 2 (.seq (.seq (.reg [oo 108 (.bin .eql (.t 106) (ci 6)), om 107 108]) (.cond (.t 107) .skip (.reg [oo 109 (.bin .eql (.t 106) (ci 7)), om 107 109]))) (.cond (.t 107) (.seq (.reg [oh 110 6 1, ol 111 110, oo 112 (.len (.t 111)), oo 113 (.bin .geq (.t 112) (ci 2)), om 2 113]) .ret) (.seq (.seq (.reg [oo 115 (.bin .eql (.t 106) (ci 8)), om 114 115]) (.cond (.t 114) .skip (.reg [oo 116 (.bin .eql (.t 106) (ci 9)), om 114 116]))) (.cond (.t 114) (.seq (.reg [oh 117 6 1, ol 118 117, oo 119 (.len (.t 118)), oo 120 (.bin .eql (.t 119) (ci 1)), om 2 120]) .ret) .skip)))))) (.seq (.reg [oh 121 6 1, ol 122 121, oo 123 (.len (.t 122)), oo 124 (.bin .eql (.t 123) (ci 0)), om 2 124]) .ret)))))))⟩
theorem r19_ok : rsvF prog 19 imm19 = some r19 := by kernel_rfl

def imm21 : Nat → Bool := fun t => ([1, 18] : List Nat).contains t
def r21_l0 : RC := (.seq (.seq (.reg [om 5 4, oh 6 6 1, ol 7 6, oo 8 (.len (.t 7)), oo 9 (.bin .lss (.t 5) (.t 8))]) (.cond (.t 9) .skip (.exit 0))) (.seq (.block 1 (.reg [om 12 3, oh 13 6 1, ol 14 13, om 15 4, oo 16 (.iaddr 7 (.t 14) (.t 15)), oo 17 (.load true 7 (.t 16)), oo 18 (.call 21 [(.t 17)]), oo 19 (.bin .add (.t 12) (.t 18)), om 3 19])) (.reg [om 10 4, oo 11 (.bin .add (.t 10) (ci 1)), om 4 11])))
def r21 : RF := ⟨21, [(.tmp 2)], (.seq (.reg [oo 1 (.box true 7 (.t 0)), oo 2 (.mov (ci 0))]) (.seq (.reg [oo 3 (.mov (ci 1))]) (.seq (.seq (.reg [oo 4 (.mov (ci 0))]) (.block 0 (.loop r21_l0))) (.seq (.reg [om 20 3, om 2 20]) .ret))))⟩
theorem r21_ok : rsvF prog 21 imm21 = some r21 := by kernel_rfl

def imm23 : Nat → Bool := fun t => ([1, 21] : List Nat).contains t
def r23_l0 : RC := (.seq (.seq (.reg [om 8 4, oh 9 6 1, ol 10 9, oo 11 (.len (.t 10)), oo 12 (.bin .lss (.t 8) (.t 11))]) (.cond (.t 12) .skip (.exit 0))) (.seq (.block 1 (.reg [om 15 3, oh 16 6 1, ol 17 16, om 18 4, oo 19 (.iaddr 7 (.t 17) (.t 18)), oo 20 (.load true 7 (.t 19)), oo 21 (.call 23 [(.t 20)]), oo 22 (.max (.t 15) (.t 21)), om 3 22])) (.reg [om 13 4, oo 14 (.bin .add (.t 13) (ci 1)), om 4 14])))
def r23 : RF := ⟨24, [(.tmp 2)], (.seq (.reg [oo 1 (.box true 7 (.t 0)), oo 2 (.mov (ci 0))]) (.seq (.reg [oh 5 5 1, ol 6 5, oo 7 (.max (.t 6) (ci 0)), om 3 7]) (.seq (.seq (.reg [oo 4 (.mov (ci 0))]) (.block 0 (.loop r23_l0))) (.seq (.reg [om 23 3, om 2 23]) .ret))))⟩
theorem r23_ok : rsvF prog 23 imm23 = some r23 := by kernel_rfl

def imm37 : Nat → Bool := fun t => ([23] : List Nat).contains t
def r37_l0 : RC := (.seq (.seq (.reg [om 5 4, om 6 0, oo 7 (.len (.t 6)), oo 8 (.bin .lss (.t 5) (.t 7))]) (.cond (.t 8) .skip (.exit 0))) (.seq (.block 1 (.dreg [(om 11 3, true), (om 12 0, true), (om 13 4, true), (oo 14 (.iaddr 2 (.t 12) (.t 13)), true), (oh 15 0 14, true), (ol 16 15, true), (om 17 0, true), (om 18 4, true), (oo 19 (.iaddr 2 (.t 17) (.t 18)), true), (oh 20 1 19, true), (ol 21 20, true), (oo 22 (.build [(.int .i32 (0)), (.int .i32 (0))] [(0, (1, (.t 16))), (1, (1, (.t 21)))]), true), (oo 23 (.bslice true 2 [(.t 22)]), false), (oo 24 (.append 2 8 [(.int .i32 (0)), (.int .i32 (0))] (.t 11) (.t 23)), true), (om 3 24, true)])) (.reg [om 9 4, oo 10 (.bin .add (.t 9) (ci 1)), om 4 10])))
def r37 : RF := ⟨26, [(.tmp 2)], (.seq (.reg [oo 2 (.mov (.c (Value.slice none 0 0)))]) (.seq (.reg [oo 3 (.mov (.c (Value.slice none 0 0)))]) (.seq (.seq (.reg [oo 4 (.mov (ci 0))]) (.block 0 (.loop r37_l0))) (.seq (.reg [om 25 3, om 2 25]) .ret))))⟩
theorem r37_ok : rsvF prog 37 imm37 = some r37 := by kernel_rfl

def imm15 : Nat → Bool := fun t => ([1, 9, 33, 34] : List Nat).contains t
def r15_l0 : RC := (.seq (.seq (.reg [om 19 4, oh 20 6 1, ol 21 20, oo 22 (.len (.t 21)), oo 23 (.bin .lss (.t 19) (.t 22))]) (.cond (.t 23) .skip (.exit 0))) (.seq (.block 1 (.dreg [(oh 26 6 3, true), (ol 27 26, true), (oh 28 6 1, true), (ol 29 28, true), (om 30 4, true), (oo 31 (.iaddr 7 (.t 29) (.t 30)), true), (oo 32 (.load true 7 (.t 31)), true), (oo 33 (.call 15 [(.t 32)]), false), (oo 34 (.bslice true 7 [(.t 33)]), false), (oo 35 (.append 7 88 zN (.t 27) (.t 34)), true), (oh 36 6 3, true), (on (.store 1 (.t 36) (.t 35)), true)])) (.reg [om 24 4, oo 25 (.bin .add (.t 24) (ci 1)), om 4 25])))
def r15 : RF := ⟨38, [(.cell true 7 2)], (.seq (.reg [oo 1 (.box true 7 (.t 0)), oo 2 (.alloc zN)]) (.seq (.greg [(.mk (oh 5 0 1) true false [] [] false true), (.mk (ol 6 5) true false [] [] false true), (.mk (oh 7 1 1) true false [] [] false true), (.mk (ol 8 7) true false [] [] false true), (.mk (oo 9 (.call 37 [(.t 8)])) false false [] [] false true), (.mk (oh 10 2 1) true false [] [] false true), (.mk (ol 11 10) true false [] [] false true), (.mk (oh 12 3 1) true false [] [] false true), (.mk (ol 13 12) true false [] [] false true), (.mk (oh 14 4 1) true false [] [] false true), (.mk (ol 15 14) true false [] [] false true), (.mk (oh 16 5 1) true false [] [] false true), (.mk (ol 17 16) true false [] [] false true), (.mk (oo 18 (.build zN [(0, (1, (.t 6))), (1, (1, (.t 9))), (2, (1, (.t 11))), (3, (1, (.t 13))), (4, (1, (.t 15))), (5, (1, (.t 17)))])) true false [] [] false false), (.mk (oo 3 (.alloc zN)) true false [] [0, 1, 2, 3, 4, 5, 6, 7, 8, 9, 10, 11, 12] false false), (.mk (on (.store 7 (.t 3) (.t 18))) true false [] [] false false)]) (.seq (.seq (.reg [oo 4 (.mov (ci 0))]) (.block 0 (.loop r15_l0))) (.seq (.reg [oo 37 (.load true 7 (.t 3)), on (.store 7 (.t 2) (.t 37))]) .ret))))⟩
theorem r15_ok : rsvF prog 15 imm15 = some r15 := by kernel_rfl

def imm26 : Nat → Bool := fun t => ([24, 25, 40] : List Nat).contains t
def r26 : RF := ⟨42, [(.cell true 7 2)], (.seq (.reg [oo 2 (.alloc zN)]) (.seq (.seq (.reg [om 4 0, oo 5 (.bin .rem (.t 4) (.c (.int .u8 (12))))]) (.block 0 (.seq (.reg [oo 7 (.bin .eql (.t 5) (.c (.int .u8 (0)))), om 6 7]) (.cond (.t 6) (.seq (.reg [oo 8 (.build zN [(0, (1, (ci 2)))]), on (.store 7 (.t 2) (.t 8))]) .ret) (.seq (.reg [oo 10 (.bin .eql (.t 5) (.c (.int .u8 (1)))), om 9 10]) (.cond (.t 9) (.seq (.reg [oo 11 (.build zN [(0, (1, (ci 3)))]), on (.store 7 (.t 2) (.t 11))]) .ret) (.seq (.reg [oo 13 (.bin .eql (.t 5) (.c (.int .u8 (2)))), om 12 13]) (.cond (.t 12) (.seq (.reg [oo 14 (.build zN [(0, (1, (ci 4)))]), on (.store 7 (.t 2) (.t 14))]) .ret) (.seq (.reg [oo 16 (.bin .eql (.t 5) (.c (.int .u8 (3)))), om 15 16]) (.cond (.t 15) (.seq (.reg [oo 17 (.build zN [(0, (1, (ci 5)))]), on (.store 7 (.t 2) (.t 17))]) .ret) (.seq (.reg [oo 19 (.bin .eql (.t 5) (.c (.int .u8 (4)))), om 18 19]) (.cond (.t 18) (.seq (.reg [oo 20 (.build zN []), on (.store 7 (.t 2) (.t 20))]) .ret) (.seq (.reg [oo 22 (.bin .eql (.t 5) (.c (.int .u8 (5)))), om 21 22]) (.cond (.t 21) (.seq (.reg [oo 23 (.build [(.int .i32 (0)), (.int .i32 (0))] [(0, (1, (.c (.int .i32 (97))))), (1, (1, (.c (.int .i32 (97)))))]), oo 24 (.bslice true 2 [(.t 23)]), oo 25 (.call 46 [(.t 24)]), oo 26 (.build zN [(0, (1, (ci 1))), (1, (1, (.t 25)))]), on (.store 7 (.t 2) (.t 26))]) .ret) .skip)))))))))))))) (.seq (.reg [om 27 0, oo 28 (.bin .quo (.t 27) (.c (.int .u8 (12)))), oo 29 (.bin .rem (.t 28) (.c (.int .u8 (3)))), oo 30 (.iconv .i32 (.t 29)), oo 31 (.bin .add (.c (.int .i32 (97))) (.t 30)), om 3 31]) (.seq (.reg [om 32 3, om 33 3, om 34 0, oo 35 (.bin .quo (.t 34) (.c (.int .u8 (36)))), oo 36 (.bin .rem (.t 35) (.c (.int .u8 (2)))), oo 37 (.iconv .i32 (.t 36)), oo 38 (.bin .add (.t 33) (.t 37)), oo 39 (.build [(.int .i32 (0)), (.int .i32 (0))] [(0, (1, (.t 32))), (1, (1, (.t 38)))]), oo 40 (.bslice true 2 [(.t 39)]), oo 41 (.build zN [(0, (1, (ci 1))), (1, (1, (.t 40)))]), on (.store 7 (.t 2) (.t 41))]) .ret))))⟩
theorem r26_ok : rsvF prog 26 imm26 = some r26 := by kernel_rfl

def imm25 : Nat → Bool := fun t => ([4, 9, 10, 11, 12, 13, 14, 15, 16, 17, 42] : List Nat).contains t
def r25 : RF := ⟨44, [(.cell true 7 6)], (.seq (.reg [oo 4 (.box true 7 (.t 1)), oo 6 (.alloc zN)]) (.seq (.reg [oo 9 (.bslice true 1 [(ci 0), (ci (-1))]), oo 10 (.bslice true 1 [(ci 1), (ci (-1))]), oo 11 (.bslice true 1 [(ci 0), (ci 1)]), oo 12 (.bslice true 1 [(ci 2), (ci 2)]), oo 13 (.bslice true 1 [(ci 0), (ci 2)]), oo 14 (.bslice true 1 [(ci 2), (ci (-1))]), oo 15 (.bslice true 1 [(ci 1), (ci 3)]), oo 16 (.bslice true 1 [(ci 0), (ci 0)]), oo 17 (.bslice true 1 [(.t 9), (.t 10), (.t 11), (.t 12), (.t 13), (.t 14), (.t 15), (.t 16)]), om 7 17]) (.seq (.reg [om 18 0, oo 19 (.bin .rem (.t 18) (.c (.int .u8 (8)))), oo 20 (.iconv .i64 (.t 19)), om 8 20]) (.seq (.seq (.reg [om 21 2]) (.cond (.t 21) (.reg [om 22 0, oo 23 (.bin .rem (.t 22) (.c (.int .u8 (3)))), oo 24 (.iconv .i64 (.t 23)), om 8 24]) .skip)) (.seq (.dreg [(om 25 7, true), (om 26 8, true), (oo 27 (.iaddr 1 (.t 25) (.t 26)), true), (ol 28 27, true), (oo 29 (.iaddr 1 (.t 28) (ci 0)), true), (ol 30 29, true), (om 31 7, true), (om 32 8, true), (oo 33 (.iaddr 1 (.t 31) (.t 32)), true), (ol 34 33, true), (oo 35 (.iaddr 1 (.t 34) (ci 1)), true), (ol 36 35, true), (om 37 0, true), (oo 38 (.bin .quo (.t 37) (.c (.int .u8 (8)))), true), (oo 39 (.bin .rem (.t 38) (.c (.int .u8 (2)))), true), (oo 40 (.bin .eql (.t 39) (.c (.int .u8 (1)))), true), (oo 41 (.load true 7 (.t 4)), true), (oo 42 (.bslice true 7 [(.t 41)]), false), (oo 43 (.build zN [(0, (1, (ci 8))), (2, (1, (.t 30))), (3, (1, (.t 36))), (4, (1, (.t 40))), (6, (1, (.t 42)))]), true), (on (.store 7 (.t 6) (.t 43)), true)]) .ret)))))⟩
theorem r25_ok : rsvF prog 25 imm25 = some r25 := by kernel_rfl

def imm10 : Nat → Bool := fun t => ([2, 35, 36, 59, 61, 84, 86, 105, 129] : List Nat).contains t
def r10_l0 : RC := (.seq (.seq (.reg [om 15 7, oh 16 8 2, ol 17 16, oo 18 (.len (.t 17)), oo 19 (.bin .lss (.t 15) (.t 18)), om 20 19, og 21 (.mov (.t 7)) 20 true, og 22 (.bin .lss (.t 21) (ci 16)) 20 true, oo 23 (.pick (.t 20) (.t 22) (.c (.bool false)))]) (.cond (.t 23) .skip (.exit 0))) (.seq (.block 1 (.seq (.reg [oh 26 8 2, ol 27 26, om 28 7, oo 29 (.iaddr 1 (.t 27) (.t 28)), ol 30 29, om 8 30]) (.seq (.reg [om 31 5, oo 32 (.len (.t 31)), om 9 32]) (.block 2 (.seq (.reg [om 39 8, oo 40 (.bin .geq (.t 39) (.c (.int .u8 (228)))), om 41 40, og 42 (.mov (.t 9)) 41 true, og 43 (.bin .geq (.t 42) (ci 2)) 41 true, oo 44 (.pick (.t 41) (.t 43) (.c (.bool false))), om 38 44]) (.cond (.t 38) (.dreg [(om 45 5, true), (om 46 9, true), (oo 47 (.bin .sub (.t 46) (ci 2)), true), (oo 48 (.slice 7 (.t 45) none (some (.t 47))), true), (om 49 5, true), (om 50 9, true), (oo 51 (.bin .sub (.t 50) (ci 2)), true), (oo 52 (.iaddr 7 (.t 49) (.t 51)), true), (oo 53 (.load true 7 (.t 52)), true), (om 54 5, true), (om 55 9, true), (oo 56 (.bin .sub (.t 55) (ci 1)), true), (oo 57 (.iaddr 7 (.t 54) (.t 56)), true), (oo 58 (.load true 7 (.t 57)), true), (oo 59 (.bslice true 7 [(.t 53), (.t 58)]), false), (oo 60 (.build zN [(0, (1, (ci 7))), (6, (1, (.t 59)))]), true), (oo 61 (.bslice true 7 [(.t 60)]), false), (oo 62 (.append 7 88 zN (.t 48) (.t 61)), true), (om 5 62, true)]) (.seq (.reg [om 64 8, oo 65 (.bin .geq (.t 64) (.c (.int .u8 (184)))), om 66 65, og 67 (.mov (.t 9)) 66 true, og 68 (.bin .geq (.t 67) (ci 2)) 66 true, oo 69 (.pick (.t 66) (.t 68) (.c (.bool false))), om 63 69]) (.cond (.t 63) (.dreg [(om 70 5, true), (om 71 9, true), (oo 72 (.bin .sub (.t 71) (ci 2)), true), (oo 73 (.slice 7 (.t 70) none (some (.t 72))), true), (om 74 5, true), (om 75 9, true), (oo 76 (.bin .sub (.t 75) (ci 2)), true), (oo 77 (.iaddr 7 (.t 74) (.t 76)), true), (oo 78 (.load true 7 (.t 77)), true), (om 79 5, true), (om 80 9, true), (oo 81 (.bin .sub (.t 80) (ci 1)), true), (oo 82 (.iaddr 7 (.t 79) (.t 81)), true), (oo 83 (.load true 7 (.t 82)), true), (oo 84 (.bslice true 7 [(.t 78), (.t 83)]), false), (oo 85 (.build zN [(0, (1, (ci 6))), (6, (1, (.t 84)))]), true), (oo 86 (.bslice true 7 [(.t 85)]), false), (oo 87 (.append 7 88 zN (.t 73) (.t 86)), true), (om 5 87, true)]) (.seq (.reg [om 89 8, oo 90 (.bin .geq (.t 89) (.c (.int .u8 (136)))), om 91 90, og 92 (.mov (.t 9)) 91 true, og 93 (.bin .geq (.t 92) (ci 1)) 91 true, oo 94 (.pick (.t 91) (.t 93) (.c (.bool false))), om 88 94]) (.cond (.t 88) (.reg [om 95 5, om 96 9, oo 97 (.bin .sub (.t 96) (ci 1)), om 98 8, om 99 5, om 100 9, oo 101 (.bin .sub (.t 100) (ci 1)), oo 102 (.iaddr 7 (.t 99) (.t 101)), oo 103 (.load true 7 (.t 102)), om 104 1, oo 105 (.call 25 [(.t 98), (.t 103), (.t 104)]), oo 106 (.iaddr 7 (.t 95) (.t 97)), on (.store 7 (.t 106) (.t 105))]) (.seq (.reg [om 108 8, oo 109 (.bin .geq (.t 108) (.c (.int .u8 (118)))), om 110 109, og 111 (.mov (.t 9)) 110 true, og 112 (.bin .geq (.t 111) (ci 1)) 110 true, oo 113 (.pick (.t 110) (.t 112) (.c (.bool false))), om 114 113, og 115 (.mov (.t 6)) 114 true, og 116 (.bin .lss (.t 115) (ci 8)) 114 true, oo 117 (.pick (.t 114) (.t 116) (.c (.bool false))), om 107 117]) (.cond (.t 107) (.seq (.reg [om 118 6, oo 119 (.bin .add (.t 118) (ci 1)), om 6 119]) (.reg [om 120 5, om 121 9, oo 122 (.bin .sub (.t 121) (ci 1)), om 123 6, om 124 5, om 125 9, oo 126 (.bin .sub (.t 125) (ci 1)), oo 127 (.iaddr 7 (.t 124) (.t 126)), oo 128 (.load true 7 (.t 127)), oo 129 (.bslice true 7 [(.t 128)]), oo 130 (.build zN [(0, (1, (ci 9))), (5, (1, (.t 123))), (6, (1, (.t 129)))]), oo 131 (.iaddr 7 (.t 120) (.t 122)), on (.store 7 (.t 131) (.t 130))])) (.reg [om 33 5, om 34 8, oo 35 (.call 26 [(.t 34)]), oo 36 (.bslice true 7 [(.t 35)]), oo 37 (.append 7 88 zN (.t 33) (.t 36)), om 5 37]))))))))))))) (.reg [om 24 7, oo 25 (.bin .add (.t 24) (ci 1)), om 7 25])))
def r10 : RF := ⟨142, [(.cell true 7 4)], (.seq (.reg [oo 2 (.box true 9 (.t 0)), oo 4 (.alloc zN)]) (.seq (.seq (.reg [oh 10 7 2, ol 11 10, oo 12 (.not (.t 11))]) (.cond (.t 12) (.seq (.reg [oh 13 0 2, oo 14 (.load true 7 (.t 13)), on (.store 7 (.t 4) (.t 14))]) .ret) .skip)) (.seq (.reg [oo 5 (.mov (.c (Value.slice none 0 0)))]) (.seq (.reg [oo 6 (.mov (ci 0))]) (.seq (.seq (.reg [oo 7 (.mov (ci 0))]) (.block 0 (.loop r10_l0))) (.seq (.seq (.reg [om 132 5, oo 133 (.len (.t 132)), oo 134 (.bin .eql (.t 133) (ci 0))]) (.cond (.t 134) (.seq (.reg [oo 135 (.build zN []), on (.store 7 (.t 4) (.t 135))]) .ret) .skip)) (.seq (.reg [om 136 5, om 137 5, oo 138 (.len (.t 137)), oo 139 (.bin .sub (.t 138) (ci 1)), oo 140 (.iaddr 7 (.t 136) (.t 139)), oo 141 (.load true 7 (.t 140)), on (.store 7 (.t 4) (.t 141))]) .ret)))))))⟩
theorem r10_ok : rsvF prog 10 imm10 = some r10 := by kernel_rfl

end Go.Av

namespace Go.Av
open Go.RowKit Go.Proofs.Tryz

/-! ### the document's answers of nodes -/
theorem f40_ok (a b : Cls) : Ret prog 40 [.one (.iv (clsIV a)), .one (.iv (clsIV b))] (.one (sct (.bool (a == b)))) := by
  refine .of r40_ok (by simp) (.one (by simp)) (by simp [r40]) ?_
  simp only [oo, on, og, om, ol, oh, zN, ci, r40, initTm, Nat.reduceAdd, clsIV]
  simp -implicitDefEqProofs only [ev, ↓reduceIte, Nat.reduceAdd, Nat.reduceEqDiff, Nat.reduceLeDiff, reduceCtorEq]
  refine .mk fun h1 => ?_
  simp -implicitDefEqProofs only [ev, ↓reduceIte, Nat.reduceAdd, Nat.reduceEqDiff, Nat.reduceLeDiff, reduceCtorEq]
  refine .mk fun h2 => ?_
  simp -implicitDefEqProofs only [ev, ↓reduceIte, Nat.reduceAdd, Nat.reduceEqDiff, Nat.reduceLeDiff, reduceCtorEq, h1]
  refine .mk (fun h => ?_) (fun h => ?_)
  · simp -implicitDefEqProofs only [ev, ↓reduceIte, Nat.reduceAdd, Nat.reduceEqDiff, Nat.reduceLeDiff, reduceCtorEq]
    refine fin_same (.one (by simp)) ?_
    simp at h
    simp [Hp.nil]
    intro e; subst e; simp at h
  · have hl : a.length = b.length := Int.ofNat_inj.1 (by simpa using h)
    simp -implicitDefEqProofs only [ev, ↓reduceIte, Nat.reduceAdd, Nat.reduceEqDiff, Nat.reduceLeDiff, reduceCtorEq, awp_loop, h1]
    refine aloop_mk (σ := Nat) (fun i => [(5, .one (sct (.int .i64 i))), (0, .one (.iv (.sl 2 (a.map Rg.cells)))), (1, .one (.iv (.sl 2 (b.map Rg.cells))))])
      (fun _ => Hp.nil) (fun i => i ≤ a.length ∧ ∀ j, j < i → a[j]? = b[j]?) (fun i => a.length - i) 0 (by simp) (wk_none ?_) ?_
    · simp only [wk, ↓reduceIte, Nat.reduceEqDiff, reduceCtorEq, Nat.reduceLT]
      simp
    · rintro i ⟨hi, hE⟩
      simp only [oo, on, og, om, ol, oh, zN, ci, r40_l0]
      simp -implicitDefEqProofs only [ev, ↓reduceIte, Nat.reduceAdd, Nat.reduceEqDiff, Nat.reduceLeDiff, reduceCtorEq]
      refine .mk fun h3 => ?_
      simp -implicitDefEqProofs only [ev, ↓reduceIte, Nat.reduceAdd, Nat.reduceEqDiff, Nat.reduceLeDiff, reduceCtorEq]
      refine .mk (fun h => ?_) (fun h => ?_)
      · have hlt : i < a.length := by simpa using h
        have hlt' : i < b.length := by omega
        simp -implicitDefEqProofs only [ev, ↓reduceIte, Nat.reduceAdd, Nat.reduceEqDiff, Nat.reduceLeDiff, reduceCtorEq, List.getElem?_map, List.getElem?_eq_getElem hlt, List.getElem?_eq_getElem hlt', Int.natCast_nonneg, Rg.cells]
        refine .mk (fun hq => ?_) (fun hq => ?_)
        · simp -implicitDefEqProofs only [ev, ↓reduceIte, Nat.reduceAdd, Nat.reduceEqDiff, Nat.reduceLeDiff, reduceCtorEq]
          refine fin_same (.one (by simp)) ?_
          have hne : a[i] ≠ b[i] := by intro e; simp [e] at hq
          simp [Hp.nil]
          intro e; subst e; exact hne rfl
        · simp -implicitDefEqProofs only [ev, ↓reduceIte, Nat.reduceAdd, Nat.reduceEqDiff, Nat.reduceLeDiff, reduceCtorEq]
          have heq : a[i] = b[i] := by
            cases ha : a[i]; cases hb : b[i]
            simp [ha, hb] at hq
            simp [hq]
          refine ⟨i + 1, ⟨by omega, fun j hj => ?_⟩, by omega, wk_none ?_⟩
          · rcases Nat.lt_or_ge j i with hj' | hj'
            · exact hE j hj'
            · have : j = i := by omega
              subst this
              simp [hlt, hlt', heq]
          · rw [wrap64 (by omega) (by omega)]
            simp only [wk, ↓reduceIte, Nat.reduceEqDiff, reduceCtorEq, Nat.reduceLT]
            simp
      · simp -implicitDefEqProofs only [ev, ↓reduceIte, Nat.reduceAdd, Nat.reduceEqDiff, Nat.reduceLeDiff, reduceCtorEq]
        have hi' : i = a.length := by simp at h; omega
        refine fin_same (.one (by simp)) ?_
        simp [Hp.nil]
        exact List.ext_getElem? fun j => by
          rcases Nat.lt_or_ge j i with hj | hj
          · exact hE j hj
          · simp [List.getElem?_eq_none (show a.length ≤ j by omega), List.getElem?_eq_none (show b.length ≤ j by omega)]

theorem f17_step (n : Nat) (ih : ∀ (x y : Nd), x.size < n → Ret prog 17 [.agg (x.cells.map .iv), .agg (y.cells.map .iv)] (.one (sct (.bool (Nd.same x y))))) (x y : Nd) (hn : x.size ≤ n) :
    Ret prog 17 [.agg (x.cells.map .iv), .agg (y.cells.map .iv)] (.one (sct (.bool (Nd.same x y)))) := by
  cases x with
  | mk k c a b z m ks =>
  cases y with
  | mk k' c' a' b' z' m' ks' =>
  have hcls := f40_ok c c'
  simp only [Nd.same]
  refine .of r17_ok (by simp [Nd.cells, clsIV]) (.one (by simp)) (by simp [r17]) ?_
  simp only [oo, on, og, om, ol, oh, zN, ci, r17, initTm, Nat.reduceAdd, Nd.cells, ndRows_eq, List.map_cons, List.map_nil]
  generalize hR : (k == k' && (c == c' && (a == a' && (b == b' && (z == z' && (m == m' && ndSames ks ks')))))) = R
  have bad : R = false → ∀ hp : Hp, Fin 0 (fun ae hp => ae = AE.ret (LV.one (AV.iv (IV.sc (Value.bool R)))) ∧ hp = { bs := [], nxt := 0 }) (LV.one (AV.iv (IV.sc (Value.bool false)))) hp := fun e hp => by
    rw [e]; exact fin_same (.one (by simp)) ⟨rfl, rfl⟩
  simp -implicitDefEqProofs only [ev, ↓reduceIte, Nat.reduceAdd, Nat.reduceEqDiff, Nat.reduceLeDiff, reduceCtorEq]
  refine .mk (fun h1 => ?_) (fun h1 => ?_)
  · simp -implicitDefEqProofs only [ev, ↓reduceIte, Nat.reduceAdd, Nat.reduceEqDiff, Nat.reduceLeDiff, reduceCtorEq, h1]
    exact bad (by rw [← hR]; simp at h1; simp [h1]) _
  · simp -implicitDefEqProofs only [ev, ↓reduceIte, Nat.reduceAdd, Nat.reduceEqDiff, Nat.reduceLeDiff, reduceCtorEq, h1]
    refine .mk (fun h2 => ?_) (fun h2 => ?_)
    · simp -implicitDefEqProofs only [ev, ↓reduceIte, Nat.reduceAdd, Nat.reduceEqDiff, Nat.reduceLeDiff, reduceCtorEq, h2]
      exact bad (by rw [← hR]; simp at h2; simp [h2]) _
    · simp -implicitDefEqProofs only [ev, ↓reduceIte, Nat.reduceAdd, Nat.reduceEqDiff, Nat.reduceLeDiff, reduceCtorEq, h2]
      refine .mk (fun h3 => ?_) (fun h3 => ?_)
      · simp -implicitDefEqProofs only [ev, ↓reduceIte, Nat.reduceAdd, Nat.reduceEqDiff, Nat.reduceLeDiff, reduceCtorEq, h3]
        exact bad (by rw [← hR]; simp at h3; simp [h3]) _
      · simp -implicitDefEqProofs only [ev, ↓reduceIte, Nat.reduceAdd, Nat.reduceEqDiff, Nat.reduceLeDiff, reduceCtorEq, h3]
        refine .mk (fun h4 => ?_) (fun h4 => ?_)
        · simp -implicitDefEqProofs only [ev, ↓reduceIte, Nat.reduceAdd, Nat.reduceEqDiff, Nat.reduceLeDiff, reduceCtorEq, h4]
          exact bad (by rw [← hR]; simp at h4; simp [h4]) _
        · simp -implicitDefEqProofs only [ev, ↓reduceIte, Nat.reduceAdd, Nat.reduceEqDiff, Nat.reduceLeDiff, reduceCtorEq, h4]
          refine .mk (fun h5 => ?_) (fun h5 => ?_)
          · simp -implicitDefEqProofs only [ev, ↓reduceIte, Nat.reduceAdd, Nat.reduceEqDiff, Nat.reduceLeDiff, reduceCtorEq, h5]
            exact bad (by rw [← hR]; simp at h5; simp [h5]) _
          · simp -implicitDefEqProofs only [ev, ↓reduceIte, Nat.reduceAdd, Nat.reduceEqDiff, Nat.reduceLeDiff, reduceCtorEq, h5]
            refine .mk fun g1 => ?_
            simp -implicitDefEqProofs only [ev, ↓reduceIte, Nat.reduceAdd, Nat.reduceEqDiff, Nat.reduceLeDiff, reduceCtorEq, h5]
            refine .mk fun g2 => ?_
            simp -implicitDefEqProofs only [ev, ↓reduceIte, Nat.reduceAdd, Nat.reduceEqDiff, Nat.reduceLeDiff, reduceCtorEq, h5, g1]
            refine .mk (fun h6 => ?_) (fun h6 => ?_)
            · simp -implicitDefEqProofs only [ev, ↓reduceIte, Nat.reduceAdd, Nat.reduceEqDiff, Nat.reduceLeDiff, reduceCtorEq, h6]
              refine bad ?_ _
              rw [← hR, ndSames_eq]
              have : ¬ ks.length = ks'.length := by simp at h6; omega
              simp [this]
            · simp -implicitDefEqProofs only [ev, ↓reduceIte, Nat.reduceAdd, Nat.reduceEqDiff, Nat.reduceLeDiff, reduceCtorEq, h6]
              refine acall_ret hcls ?_
              simp -implicitDefEqProofs only [ev, ↓reduceIte, Nat.reduceAdd, Nat.reduceEqDiff, Nat.reduceLeDiff, reduceCtorEq, h6]
              refine .mk (fun h7 => ?_) (fun h7 => ?_)
              · simp -implicitDefEqProofs only [ev, ↓reduceIte, Nat.reduceAdd, Nat.reduceEqDiff, Nat.reduceLeDiff, reduceCtorEq, h7]
                exact bad (by rw [← hR]; simp at h7; simp [h7]) _
              · simp -implicitDefEqProofs only [ev, ↓reduceIte, Nat.reduceAdd, Nat.reduceEqDiff, Nat.reduceLeDiff, reduceCtorEq, h7, awp_loop]
                have hl : ks.length = ks'.length := by simp at h6; omega
                have hR2 : R = ndSames ks ks' := by
                  rw [← hR]
                  simp at h1 h2 h3 h4 h5 h7
                  simp [h1, h2, h3, h4, h5, h7]
                simp only [Nd.size] at hn
                refine aloop_mk (σ := Nat) (fun i => [(2, .one (.ip [.sc (.int .i64 k), clsIV c, .sc (.int .i64 a), .sc (.int .i64 b), .sc (.bool z), .sc (.int .i64 m), .sl 7 (ks.map Nd.cells)] 0)), (3, .one (.ip [.sc (.int .i64 k'), clsIV c', .sc (.int .i64 a'), .sc (.int .i64 b'), .sc (.bool z'), .sc (.int .i64 m'), .sl 7 (ks'.map Nd.cells)] 0)), (5, .one (sct (.int .i64 (i : Nat))))])
                  (fun _ => Hp.nil) (fun i => i ≤ ks.length ∧ ndSames (ks.drop i) (ks'.drop i) = R) (fun i => ks.length - i) 0 ⟨by simp, by simpa using hR2.symm⟩ (wk_none ?_) ?_
                · simp only [wk, ↓reduceIte, Nat.reduceEqDiff, reduceCtorEq, Nat.reduceLT]
                  simp
                rintro i ⟨hi, hE⟩
                simp only [oo, on, og, om, ol, oh, zN, ci, r17_l0]
                simp -implicitDefEqProofs only [ev, ↓reduceIte, Nat.reduceAdd, Nat.reduceEqDiff, Nat.reduceLeDiff, reduceCtorEq]
                refine .mk fun hb => ?_
                simp -implicitDefEqProofs only [ev, ↓reduceIte, Nat.reduceAdd, Nat.reduceEqDiff, Nat.reduceLeDiff, reduceCtorEq]
                refine .mk (fun h => ?_) (fun h => ?_)
                · have hlt : i < ks.length := by simpa using h
                  have hlt' : i < ks'.length := by omega
                  have hx := List.getElem?_eq_getElem hlt
                  have hy := List.getElem?_eq_getElem hlt'
                  have hs := ndSize_mem (List.getElem_mem hlt)
                  have hr := ih ks[i] ks'[i] (by omega)
                  rw [List.drop_eq_getElem_cons hlt, List.drop_eq_getElem_cons hlt', ndSames] at hE
                  generalize ks[i] = u at hx hs hr hE
                  generalize ks'[i] = v at hy hr hE
                  cases u with
                  | mk k1 c1 a1 b1 z1 m1 ks1 =>
                  cases v with
                  | mk k2 c2 a2 b2 z2 m2 ks2 =>
                  simp only [Nd.cells, ndRows_eq, List.map_cons, List.map_nil] at hr
                  simp -implicitDefEqProofs only [ev, ↓reduceIte, Nat.reduceAdd, Nat.reduceEqDiff, Nat.reduceLeDiff, reduceCtorEq, List.getElem?_map, hx, hy, Nd.cells, ndRows_eq, Int.natCast_nonneg]
                  refine dcall_ret hr ?_
                  cases hq : Nd.same (.mk k1 c1 a1 b1 z1 m1 ks1) (.mk k2 c2 a2 b2 z2 m2 ks2) with
                  | true =>
                    rw [hq, Bool.true_and] at hE
                    simp -implicitDefEqProofs only [ev, ↓reduceIte, Nat.reduceAdd, Nat.reduceEqDiff, Nat.reduceLeDiff, reduceCtorEq, hq]
                    refine ⟨i + 1, ⟨by omega, hE⟩, by omega, wk_none ?_⟩
                    rw [wrap64 (by omega) (by omega)]
                    simp only [wk, ↓reduceIte, Nat.reduceEqDiff, reduceCtorEq, Nat.reduceLT]
                    simp
                  | false =>
                    rw [hq, Bool.false_and] at hE
                    simp -implicitDefEqProofs only [ev, ↓reduceIte, Nat.reduceAdd, Nat.reduceEqDiff, Nat.reduceLeDiff, reduceCtorEq, hq]
                    exact bad hE.symm _
                · simp -implicitDefEqProofs only [ev, ↓reduceIte, Nat.reduceAdd, Nat.reduceEqDiff, Nat.reduceLeDiff, reduceCtorEq]
                  have e1 : ks.drop i = [] := List.drop_eq_nil_of_le (by have := of_decide_eq_false h; omega)
                  have e2 : ks'.drop i = [] := List.drop_eq_nil_of_le (by have := of_decide_eq_false h; omega)
                  rw [e1, e2, ndSames] at hE
                  rw [← hE]
                  exact fin_same (.one (by simp)) ⟨rfl, rfl⟩

theorem f17_all (n : Nat) : ∀ (x y : Nd), x.size ≤ n → Ret prog 17 [.agg (x.cells.map .iv), .agg (y.cells.map .iv)] (.one (sct (.bool (Nd.same x y)))) := by
  induction n with
  | zero => intro x y hx; cases x; simp [Nd.size] at hx
  | succ n ih => intro x y hx; exact f17_step (n + 1) (fun x y h => ih x y (by omega)) x y hx
theorem f17_ok (x y : Nd) : Ret prog 17 [.agg (x.cells.map .iv), .agg (y.cells.map .iv)] (.one (sct (.bool (Nd.same x y)))) := f17_all _ x y (Nat.le_refl _)
end Go.Av

namespace Go.Av
open Go.RowKit Go.Proofs.Tryz

theorem f66_ok (r : Rg) : Ret prog 66 [.agg (r.cells.map .iv)] (.one (sct (.bool r.may))) := by
  refine .of r66_ok (by simp [Rg.cells]) (.one (by simp)) (by simp [r66]) ?_
  simp only [oo, on, og, om, ol, oh, zN, ci, r66, initTm, Nat.reduceAdd, Rg.cells, List.map_cons, List.map_nil, Rg.may]
  simp -implicitDefEqProofs only [ev, ↓reduceIte, Nat.reduceAdd, Nat.reduceEqDiff, Nat.reduceLeDiff, reduceCtorEq]
  have done : ∀ (q : Bool) (hp : Hp), Fin 0 (fun ae hp => ae = AE.ret (LV.one (AV.iv (IV.sc (Value.bool q)))) ∧ hp = { bs := [], nxt := 0 }) (LV.one (AV.iv (IV.sc (Value.bool q)))) hp := fun q hp => fin_same (.one (by simp)) ⟨rfl, rfl⟩
  refine .mk (fun h => ?_) (fun h => ?_)
  · simp -implicitDefEqProofs only [ev, ↓reduceIte, Nat.reduceAdd, Nat.reduceEqDiff, Nat.reduceLeDiff, reduceCtorEq, h]
    refine .mk (fun h2 => ?_) (fun h2 => ?_)
    · simp -implicitDefEqProofs only [ev, ↓reduceIte, Nat.reduceAdd, Nat.reduceEqDiff, Nat.reduceLeDiff, reduceCtorEq, h2]
      exact done _ _
    · simp -implicitDefEqProofs only [ev, ↓reduceIte, Nat.reduceAdd, Nat.reduceEqDiff, Nat.reduceLeDiff, reduceCtorEq, h2, Bool.false_and]
      exact done _ _
  · simp -implicitDefEqProofs only [ev, ↓reduceIte, Nat.reduceAdd, Nat.reduceEqDiff, Nat.reduceLeDiff, reduceCtorEq, h, Bool.false_and]
    exact done _ _

theorem f44_ok (c : Cls) : Ret prog 44 [.one (.iv (clsIV c))] (.one (sct (.bool (clsRight c)))) := by
  refine .of r44_ok (by simp) (.one (by simp)) (by simp [r44]) ?_
  simp only [oo, on, og, om, ol, oh, zN, ci, r44, initTm, Nat.reduceAdd, clsIV]
  simp -implicitDefEqProofs only [ev, ↓reduceIte, Nat.reduceAdd, Nat.reduceEqDiff, Nat.reduceLeDiff, reduceCtorEq]
  refine .mk fun h1 => ?_
  simp -implicitDefEqProofs only [ev, ↓reduceIte, Nat.reduceAdd, Nat.reduceEqDiff, Nat.reduceLeDiff, reduceCtorEq]
  refine .mk (fun h64 => ?_) (fun h64 => ?_)
  · simp -implicitDefEqProofs only [ev, ↓reduceIte, Nat.reduceAdd, Nat.reduceEqDiff, Nat.reduceLeDiff, reduceCtorEq]
    have : clsRight c = false := by
      have : ¬ ((c.length : Int) ≤ 64) := by have := of_decide_eq_true h64; omega
      simp [clsRight]; intro _; omega
    rw [this]
    exact fin_same (.one (by simp)) ⟨rfl, rfl⟩
  simp -implicitDefEqProofs only [ev, ↓reduceIte, Nat.reduceAdd, Nat.reduceEqDiff, Nat.reduceLeDiff, reduceCtorEq, awp_loop]
  have h64' : decide ((c.length : Int) ≤ 64) = true := by have := of_decide_eq_false h64; simp; omega
  have bad : ∀ (i : Nat) (hp : Hp), i < c.length → gapOK c i = false → Fin 0 (fun ae hp => ae = AE.ret (LV.one (AV.iv (IV.sc (Value.bool (clsRight c))))) ∧ hp = { bs := [], nxt := 0 }) (LV.one (AV.iv (IV.sc (Value.bool false)))) hp := by
    intro i hp hi hg
    have : clsRight c = false := by
      rw [clsRight, List.all_eq_false.2 ⟨i, by simpa using hi, by simpa using hg⟩]; rfl
    rw [this]
    exact fin_same (.one (by simp)) ⟨rfl, rfl⟩
  refine aloop_mk (σ := Nat) (fun i => [(0, .one (.iv (.sl 2 (c.map Rg.cells)))), (3, .one (sct (.int .i64 i)))])
    (fun _ => Hp.nil) (fun i => i ≤ c.length ∧ ∀ j, j < i → gapOK c j = true) (fun i => c.length - i) 0 (by simp) (wk_none ?_) ?_
  · simp only [wk, ↓reduceIte, Nat.reduceEqDiff, reduceCtorEq, Nat.reduceLT]
    simp
  · rintro i ⟨hi, hE⟩
    simp only [oo, on, og, om, ol, oh, zN, ci, r44_l0]
    simp -implicitDefEqProofs only [ev, ↓reduceIte, Nat.reduceAdd, Nat.reduceEqDiff, Nat.reduceLeDiff, reduceCtorEq]
    refine .mk fun hg2 => ?_
    simp -implicitDefEqProofs only [ev, ↓reduceIte, Nat.reduceAdd, Nat.reduceEqDiff, Nat.reduceLeDiff, reduceCtorEq]
    refine .mk (fun h => ?_) (fun h => ?_)
    · have hlt : i < c.length := by simpa using h
      have hx := List.getElem?_eq_getElem hlt
      have hr := f66_ok c[i]
      have hgi : gapOK c i = (c[i].may && (i == 0 || match c[i - 1]? with
        | some q => !(decide (c[i].lo ≤ q.hi + 1))
        | none => true)) := by simp only [gapOK, hx]; rfl
      have next : gapOK c i = true → ∀ (tm : Tm), tm.get 0 = some (.one (.iv (.sl 2 (c.map Rg.cells)))) → tm.get 3 = some (.one (.iv (.sc (.int .i64 (i + 1 : Int))))) → ∀ hp : Hp,
          ∃ s' : Nat, (s' ≤ c.length ∧ ∀ j, j < s' → gapOK c j = true) ∧ c.length - s' < c.length - i ∧ Wk 0 tm hp [(0, .one (.iv (.sl 2 (c.map Rg.cells)))), (3, .one (.iv (.sc (.int .i64 s'))))] Hp.nil := by
        intro hg tm g0 g7 hp
        refine ⟨i + 1, ⟨by omega, fun j hj => ?_⟩, by omega, wk_none ?_⟩
        · rcases Nat.lt_or_ge j i with hj' | hj'
          · exact hE j hj'
          · have : j = i := by omega
            subst this; exact hg
        · simp only [WkEq, g0, g7]
          simp
      cases hxe : c[i] with
      | mk lo hi' =>
        rw [hxe] at hr hx hgi
        simp only [Rg.cells, List.map_cons, List.map_nil] at hr
        simp -implicitDefEqProofs only [ev, ↓reduceIte, Nat.reduceAdd, Nat.reduceEqDiff, Nat.reduceLeDiff, reduceCtorEq, List.getElem?_map, hx, Rg.cells, Int.natCast_nonneg]
        refine dcall_ret hr ?_
        cases hm : (Rg.mk lo hi').may with
        | false =>
          simp -implicitDefEqProofs only [ev, ↓reduceIte, Nat.reduceAdd, Nat.reduceEqDiff, Nat.reduceLeDiff, reduceCtorEq, hm]
          exact bad i _ hlt (by rw [hgi, hm]; rfl)
        | true =>
          rcases Nat.eq_zero_or_pos i with h0 | h0
          · have hk : decide ((i : Int) > 0) = false := by simp; omega
            simp -implicitDefEqProofs only [ev, ↓reduceIte, Nat.reduceAdd, Nat.reduceEqDiff, Nat.reduceLeDiff, reduceCtorEq, hm, hk]
            refine next (by rw [hgi, hm]; simp [h0]) _ rfl ?_ _
            rw [wrap64 (by omega) (by omega)]
            rfl
          · have hk : decide ((i : Int) > 0) = true := by simp; omega
            have hlt2 : i - 1 < c.length := by omega
            have hx2 := List.getElem?_eq_getElem hlt2
            have hw : IntKind.i64.wrap ((i : Int) - 1) = ((i - 1 : Nat) : Int) := by rw [wrap64 (by omega) (by omega)]; omega
            have hprev := hE (i - 1) (by omega)
            cases hxe2 : c[i - 1] with
            | mk lo2 hi2 =>
              rw [hxe2] at hx2
              have hmay2 : (Rg.mk lo2 hi2).may = true := by
                simp only [gapOK, hx2, Bool.and_eq_true] at hprev
                exact hprev.1
              have hb2 : 0 ≤ hi2 ∧ hi2 ≤ 1114111 := by
                simp [Rg.may] at hmay2; omega
              have hlt3 : ((i - 1 : Nat) : Int) < (c.length : Int) := by omega
              simp -implicitDefEqProofs only [ev, ↓reduceIte, Nat.reduceAdd, Nat.reduceEqDiff, Nat.reduceLeDiff, reduceCtorEq, hm, hk, hw, Int.natCast_nonneg, List.getElem?_map, hx, hx2, Rg.cells]
              rw [wrap32 (by omega) (by omega)]
              refine .mk (fun hq => ?_) (fun hq => ?_)
              · simp -implicitDefEqProofs only [ev, ↓reduceIte, Nat.reduceAdd, Nat.reduceEqDiff, Nat.reduceLeDiff, reduceCtorEq]
                exact bad i _ hlt (by rw [hgi, hm, hx2]; simp at hq; simp [hq]; omega)
              · simp -implicitDefEqProofs only [ev, ↓reduceIte, Nat.reduceAdd, Nat.reduceEqDiff, Nat.reduceLeDiff, reduceCtorEq]
                refine next (by rw [hgi, hm, hx2]; simp at hq; simp; omega) _ rfl ?_ _
                rw [wrap64 (by omega) (by omega)]
                rfl
    · simp -implicitDefEqProofs only [ev, ↓reduceIte, Nat.reduceAdd, Nat.reduceEqDiff, Nat.reduceLeDiff, reduceCtorEq]
      have hi' : i = c.length := by simp at h; omega
      refine fin_same (.one (by simp)) ?_
      have : (List.range c.length).all (gapOK c) = true := by
        rw [List.all_eq_true]
        intro j hj
        exact hE j (by simp at hj; omega)
      exact ⟨by rw [show clsRight c = true by simp only [clsRight, this, h64', Bool.and_self]], rfl⟩

theorem here_kind {k : Int} (h : k < 0 ∨ k > 9) (c : Cls) (a b : Int) (z : Bool) (m : Int) (n : Nat) : rightHere k c a b z m n = false := by
  have e0 : (k == 0) = false := by simp; omega
  have e1 : (k == 1) = false := by simp; omega
  have e2 : (k == 2) = false := by simp; omega
  have e3 : (k == 3) = false := by simp; omega
  have e4 : (k == 4) = false := by simp; omega
  have e5 : (k == 5) = false := by simp; omega
  have e6 : (k == 6) = false := by simp; omega
  have e7 : (k == 7) = false := by simp; omega
  have e8 : (k == 8) = false := by simp; omega
  have e9 : (k == 9) = false := by simp; omega
  simp [rightHere, e0, e1, e2, e3, e4, e5, e6, e7, e8, e9]
theorem ndRight_drop (ks : List Nd) (i : Nat) (h : i < ks.length) : ndRight (ks.drop i) = (ks[i].right && ndRight (ks.drop (i + 1))) := by
  rw [List.drop_eq_getElem_cons h, ndRight]

set_option maxHeartbeats 4000000 in
theorem f19_step (n : Nat) (ih : ∀ (x : Nd), x.size < n → Ret prog 19 [.agg (x.cells.map .iv)] (.one (sct (.bool x.right)))) (x : Nd) (hn : x.size ≤ n) :
    Ret prog 19 [.agg (x.cells.map .iv)] (.one (sct (.bool x.right))) := by
  cases x with
  | mk k c a b z m ks =>
  have hcls := f44_ok c
  simp only [clsIV] at hcls
  refine .of r19_ok (by simp [Nd.cells, clsIV]) (.one (by simp)) (by simp [r19]) ?_
  simp only [oo, on, og, om, ol, oh, zN, ci, r19, initTm, Nat.reduceAdd, Nd.cells, ndRows_eq, List.map_cons, List.map_nil, clsIV]
  have done : ∀ (q q' : Bool) (hp : Hp), q = q' → Fin 0 (fun ae hp => ae = AE.ret (LV.one (AV.iv (IV.sc (Value.bool q')))) ∧ hp = { bs := [], nxt := 0 }) (LV.one (AV.iv (IV.sc (Value.bool q)))) hp := fun q q' hp e => by subst e; exact fin_same (.one (by simp)) ⟨rfl, rfl⟩
  simp only [Nd.size] at hn
  simp -implicitDefEqProofs only [ev, ↓reduceIte, Nat.reduceAdd, Nat.reduceEqDiff, Nat.reduceLeDiff, reduceCtorEq, awp_loop]
  refine aloop_mk (σ := Nat) (fun i => [(1, .one (.ip [.sc (.int .i64 k), .sl 2 (c.map Rg.cells), .sc (.int .i64 a), .sc (.int .i64 b), .sc (.bool z), .sc (.int .i64 m), .sl 7 (ks.map Nd.cells)] 0)), (3, .one (sct (.int .i64 (i : Nat))))])
    (fun _ => Hp.nil) (fun i => i ≤ ks.length ∧ ndRight ks = ndRight (ks.drop i)) (fun i => ks.length - i) 0 ⟨by simp, by simp⟩ (wk_none ?_) ?_
  · simp only [wk, ↓reduceIte, Nat.reduceEqDiff, reduceCtorEq, Nat.reduceLT]
    simp
  rintro i ⟨hi, hE⟩
  simp only [oo, on, og, om, ol, oh, zN, ci, r19_l0]
  simp -implicitDefEqProofs only [ev, ↓reduceIte, Nat.reduceAdd, Nat.reduceEqDiff, Nat.reduceLeDiff, reduceCtorEq]
  refine .mk fun hb => ?_
  simp -implicitDefEqProofs only [ev, ↓reduceIte, Nat.reduceAdd, Nat.reduceEqDiff, Nat.reduceLeDiff, reduceCtorEq]
  refine .mk (fun h => ?_) (fun h => ?_)
  · have hlt : i < ks.length := by simpa using h
    have hx := List.getElem?_eq_getElem hlt
    have hs := ndSize_mem (List.getElem_mem hlt)
    have hr := ih ks[i] (by omega)
    rw [ndRight_drop ks i hlt] at hE
    generalize ks[i] = u at hx hs hr hE
    cases u with
    | mk k1 c1 a1 b1 z1 m1 ks1 =>
    simp only [Nd.cells, ndRows_eq, List.map_cons, List.map_nil] at hr
    simp -implicitDefEqProofs only [ev, ↓reduceIte, Nat.reduceAdd, Nat.reduceEqDiff, Nat.reduceLeDiff, reduceCtorEq, List.getElem?_map, hx, Nd.cells, ndRows_eq, Int.natCast_nonneg]
    refine acall_ret hr ?_
    cases hq : (Nd.mk k1 c1 a1 b1 z1 m1 ks1).right with
    | true =>
      rw [hq, Bool.true_and] at hE
      simp -implicitDefEqProofs only [ev, ↓reduceIte, Nat.reduceAdd, Nat.reduceEqDiff, Nat.reduceLeDiff, reduceCtorEq]
      refine ⟨i + 1, ⟨by omega, hE⟩, by omega, wk_none ?_⟩
      rw [wrap64 (by omega) (by omega)]
      simp only [wk, ↓reduceIte, Nat.reduceEqDiff, reduceCtorEq, Nat.reduceLT]
      simp
    | false =>
      rw [hq, Bool.false_and] at hE
      simp -implicitDefEqProofs only [ev, ↓reduceIte, Nat.reduceAdd, Nat.reduceEqDiff, Nat.reduceLeDiff, reduceCtorEq]
      exact done _ _ _ (by simp [Nd.right, hE])
  · have e1 : ks.drop i = [] := List.drop_eq_nil_of_le (by have := of_decide_eq_false h; omega)
    rw [e1, ndRight] at hE
    clear ih
    have hRR : (Nd.mk k c a b z m ks).right = rightHere k c a b z m ks.length := by simp [Nd.right, hE]
    rw [hRR]
    simp -implicitDefEqProofs only [ev, ↓reduceIte, Nat.reduceAdd, Nat.reduceEqDiff, Nat.reduceLeDiff, reduceCtorEq]
    refine .mk (fun h1 => ?_) (fun h1 => ?_)
    · simp -implicitDefEqProofs only [ev, ↓reduceIte, Nat.reduceAdd, Nat.reduceEqDiff, Nat.reduceLeDiff, reduceCtorEq, h1]
      exact done _ _ _ (here_kind (.inl (of_decide_eq_true h1)) ..).symm
    · simp -implicitDefEqProofs only [ev, ↓reduceIte, Nat.reduceAdd, Nat.reduceEqDiff, Nat.reduceLeDiff, reduceCtorEq, h1]
      refine .mk (fun h2 => ?_) (fun h2 => ?_)
      · simp -implicitDefEqProofs only [ev, ↓reduceIte, Nat.reduceAdd, Nat.reduceEqDiff, Nat.reduceLeDiff, reduceCtorEq, h2]
        exact done _ _ _ (here_kind (.inr (of_decide_eq_true h2)) ..).symm
      · simp -implicitDefEqProofs only [ev, ↓reduceIte, Nat.reduceAdd, Nat.reduceEqDiff, Nat.reduceLeDiff, reduceCtorEq, h2]
        refine .mk fun hcl => ?_
        simp -implicitDefEqProofs only [ev, ↓reduceIte, Nat.reduceAdd, Nat.reduceEqDiff, Nat.reduceLeDiff, reduceCtorEq, h2]
        refine .mk (fun h3 => ?_) (fun h3 => ?_)
        · simp -implicitDefEqProofs only [ev, ↓reduceIte, Nat.reduceAdd, Nat.reduceEqDiff, Nat.reduceLeDiff, reduceCtorEq, h3]
          exact done _ _ _ (by
            have : ((k == 1) == decide ((c.length : Int) > 0)) = false := by
              cases e1 : (k == 1) <;> cases e2 : decide ((c.length : Int) > 0) <;> simp_all
            simp only [rightHere, this, Bool.and_false, Bool.false_and])
        · simp -implicitDefEqProofs only [ev, ↓reduceIte, Nat.reduceAdd, Nat.reduceEqDiff, Nat.reduceLeDiff, reduceCtorEq, h3]
          refine acall_ret hcls ?_
          cases hc : clsRight c with
          | false =>
            simp -implicitDefEqProofs only [ev, ↓reduceIte, Nat.reduceAdd, Nat.reduceEqDiff, Nat.reduceLeDiff, reduceCtorEq]
            exact done _ _ _ (by simp [rightHere, hc])
          | true =>
            have h0' : ((k == 1) == decide ((c.length : Int) > 0)) = true := by
              cases e1 : (k == 1) <;> cases e2 : decide ((c.length : Int) > 0) <;> simp_all
            have fin2 : rightHere k c a b z m ks.length = (let plain := a == 0 && (b == 0 && !z)
     if k == 0 || k == 1 || k == 2 || k == 3 || k == 4 || k == 5 then plain && (m == 0 && (((ks.length : Nat) : Int) == 0))
     else if k == 6 || k == 7 then plain && (m == 0 && decide (((ks.length : Nat) : Int) > 1))
     else if k == 8 then m == 0 && (((ks.length : Nat) : Int) == 1 && (decide (a ≥ 0) && (decide (a ≤ 20) && (b == -1 || (decide (b ≥ a) && decide (b ≤ 20))))))
     else if k == 9 then plain && (((ks.length : Nat) : Int) == 1 && (decide (m > 0) && decide (m ≤ 8)))
     else false) := by
              simp only [rightHere, hc, h0', Bool.true_and]
            rw [fin2]
            clear fin2 h0' hcls hRR
            simp -implicitDefEqProofs only [ev, ↓reduceIte, Nat.reduceAdd, Nat.reduceEqDiff, Nat.reduceLeDiff, reduceCtorEq]
            repeat' (first
              | (refine brkT.mk (fun h => ?_) (fun h => ?_) <;> simp -implicitDefEqProofs only [ev, ↓reduceIte, Nat.reduceAdd, Nat.reduceEqDiff, Nat.reduceLeDiff, reduceCtorEq, h])
              | (refine grantT.mk fun h => ?_
                 simp -implicitDefEqProofs only [ev, ↓reduceIte, Nat.reduceAdd, Nat.reduceEqDiff, Nat.reduceLeDiff, reduceCtorEq, h, List.length_map])
              | (refine done _ _ _ ?_; clear done; simp_all; done)
              | (refine done _ _ _ ?_; clear done; simp_all; omega)
              | (refine done _ _ _ ?_; clear done; simp_all; intros; omega)
              | (refine done _ _ _ ?_; clear done; simp_all; intro e; simp [e]; done))

theorem f19_all (n : Nat) : ∀ (x : Nd), x.size ≤ n → Ret prog 19 [.agg (x.cells.map .iv)] (.one (sct (.bool x.right))) := by
  induction n with
  | zero => intro x hx; cases x; simp [Nd.size] at hx
  | succ n ih => intro x hx; exact f19_step (n + 1) (fun x h => ih x (by omega)) x hx
theorem f19_ok (x : Nd) : Ret prog 19 [.agg (x.cells.map .iv)] (.one (sct (.bool x.right))) := f19_all _ x (Nat.le_refl _)
end Go.Av

namespace Go.Av
open Go.RowKit Go.Proofs.Tryz

theorem wrap_add (a b : Int) : IntKind.i64.wrap (IntKind.i64.wrap a + IntKind.i64.wrap b) = IntKind.i64.wrap (a + b) := by
  rw [IntKind.wrap_i64, IntKind.wrap_i64, IntKind.wrap_i64, IntKind.wrap_i64]; omega
def sizeW (n : Nat) : Int := IntKind.i64.wrap (n : Int)
theorem sizeW_add (a b : Nat) : IntKind.i64.wrap (sizeW a + sizeW b) = sizeW (a + b) := by
  unfold sizeW; rw [wrap_add]; congr 1
theorem sizeW_one : sizeW 1 = 1 := by unfold sizeW; rw [IntKind.wrap_i64]; rfl

theorem f20w_step (n : Nat) (ih : ∀ (x : Nd), x.size < n → Ret prog 20 [.agg (x.cells.map .iv)] (.one (sct (.int .i64 (sizeW x.size))))) (x : Nd) (hn : x.size ≤ n) :
    Ret prog 20 [.agg (x.cells.map .iv)] (.one (sct (.int .i64 (sizeW x.size)))) := by
  cases x with
  | mk k c a b z m ks =>
  simp only [Nd.size] at hn
  refine .of r20_ok (by simp [Nd.cells, clsIV]) (.one (by simp)) (by simp [r20]) ?_
  simp only [oo, on, og, om, ol, oh, zN, ci, r20, initTm, Nat.reduceAdd, Nd.cells, List.map_cons, List.map_nil, ndRows_eq]
  simp -implicitDefEqProofs only [ev, ↓reduceIte, Nat.reduceAdd, Nat.reduceEqDiff, Nat.reduceLeDiff, reduceCtorEq]
  refine .mk fun h1 => ?_
  simp -implicitDefEqProofs only [ev, ↓reduceIte, Nat.reduceAdd, Nat.reduceEqDiff, Nat.reduceLeDiff, reduceCtorEq, awp_loop]
  refine aloop_mk (σ := Nat) (fun i => [(7, .one (.iv (.sl 7 (ks.map Nd.cells)))), (8, .one (sct (.int .i64 ks.length))), (9, .one (sct (.int .i64 i))), (3, .one (sct (.int .i64 (sizeW (1 + ndSize (ks.take i))))))])
    (fun _ => Hp.nil) (fun i => i ≤ ks.length) (fun i => ks.length - i) 0 (by simp) (wk_none ?_) ?_
  · simp only [wk, ↓reduceIte, Nat.reduceEqDiff, reduceCtorEq, Nat.reduceLT]
    simp [ndSize, sizeW_one]
  · intro i hi
    simp only [oo, on, og, om, ol, oh, zN, ci, r20_l0]
    simp -implicitDefEqProofs only [ev, ↓reduceIte, Nat.reduceAdd, Nat.reduceEqDiff, Nat.reduceLeDiff, reduceCtorEq]
    refine .mk (fun h => ?_) (fun h => ?_)
    · have hlt : i < ks.length := by simpa using h
      have hx := List.getElem?_eq_getElem hlt
      have hs := ndSize_mem (List.getElem_mem hlt)
      have hr := ih ks[i] (by omega)
      have hsum := ndSize_succ hlt
      cases hxe : ks[i] with
      | mk k' c' a' b' z' m' ks' =>
        rw [hxe] at hr hsum hs
        simp only [Nd.cells, List.map_cons, List.map_nil] at hr
        simp -implicitDefEqProofs only [ev, ↓reduceIte, Nat.reduceAdd, Nat.reduceEqDiff, Nat.reduceLeDiff, reduceCtorEq, List.getElem?_map, hx, hxe, Nd.cells, Int.natCast_nonneg]
        refine acall_ret hr ?_
        simp -implicitDefEqProofs only [ev, ↓reduceIte, Nat.reduceAdd, Nat.reduceEqDiff, Nat.reduceLeDiff, reduceCtorEq]
        refine ⟨i + 1, by omega, by omega, wk_none ?_⟩
        rw [wrap64 (n := (i : Int) + 1) (by omega) (by omega), sizeW_add]
        simp only [wk, ↓reduceIte, Nat.reduceEqDiff, reduceCtorEq, Nat.reduceLT]
        simp [hsum]
        rw [Nat.add_assoc]
    · simp -implicitDefEqProofs only [ev, ↓reduceIte, Nat.reduceAdd, Nat.reduceEqDiff, Nat.reduceLeDiff, reduceCtorEq]
      have hi' : i = ks.length := by simp at h; omega
      subst hi'
      refine fin_same (.one (by simp)) ?_
      simp [Hp.nil, Nd.size]
theorem f20w_all (n : Nat) : ∀ (x : Nd), x.size ≤ n → Ret prog 20 [.agg (x.cells.map .iv)] (.one (sct (.int .i64 (sizeW x.size)))) := by
  induction n with
  | zero => intro x hx; cases x; simp [Nd.size] at hx
  | succ n ih => intro x hx; exact f20w_step (n + 1) (fun x h => ih x (by omega)) x hx
theorem f20w_ok (x : Nd) : Ret prog 20 [.agg (x.cells.map .iv)] (.one (sct (.int .i64 (sizeW x.size)))) := f20w_all _ x (Nat.le_refl _)

theorem f21_step (n : Nat) (ih : ∀ (x : Nd), x.size < n → Ret prog 21 [.agg (x.cells.map .iv)] (.one (sct (.int .i64 (sizeW x.size))))) (x : Nd) (hn : x.size ≤ n) :
    Ret prog 21 [.agg (x.cells.map .iv)] (.one (sct (.int .i64 (sizeW x.size)))) := by
  cases x with
  | mk k c a b z m ks =>
  simp only [Nd.size] at hn
  refine .of r21_ok (by simp [Nd.cells, clsIV]) (.one (by simp)) (by simp [r21]) ?_
  simp only [oo, on, og, om, ol, oh, zN, ci, r21, initTm, Nat.reduceAdd, Nd.cells, List.map_cons, List.map_nil, ndRows_eq]
  simp -implicitDefEqProofs only [ev, ↓reduceIte, Nat.reduceAdd, Nat.reduceEqDiff, Nat.reduceLeDiff, reduceCtorEq, awp_loop]
  refine aloop_mk (σ := Nat) (fun i => [(1, .one (.ip [.sc (.int .i64 k), clsIV c, .sc (.int .i64 a), .sc (.int .i64 b), .sc (.bool z), .sc (.int .i64 m), .sl 7 (ks.map Nd.cells)] 0)), (4, .one (sct (.int .i64 (i : Nat)))), (3, .one (sct (.int .i64 (sizeW (1 + ndSize (ks.take i))))))])
    (fun _ => Hp.nil) (fun i => i ≤ ks.length) (fun i => ks.length - i) 0 (by simp) (wk_none ?_) ?_
  · simp only [wk, ↓reduceIte, Nat.reduceEqDiff, reduceCtorEq, Nat.reduceLT]
    simp [ndSize, sizeW_one]
  · intro i hi
    simp only [oo, on, og, om, ol, oh, zN, ci, r21_l0]
    simp -implicitDefEqProofs only [ev, ↓reduceIte, Nat.reduceAdd, Nat.reduceEqDiff, Nat.reduceLeDiff, reduceCtorEq]
    refine .mk fun hb => ?_
    simp -implicitDefEqProofs only [ev, ↓reduceIte, Nat.reduceAdd, Nat.reduceEqDiff, Nat.reduceLeDiff, reduceCtorEq]
    refine .mk (fun h => ?_) (fun h => ?_)
    · have hlt : i < ks.length := by simpa using h
      have hx := List.getElem?_eq_getElem hlt
      have hs := ndSize_mem (List.getElem_mem hlt)
      have hr := ih ks[i] (by omega)
      have hsum := ndSize_succ hlt
      cases hxe : ks[i] with
      | mk k' c' a' b' z' m' ks' =>
        rw [hxe] at hr hsum hs
        simp only [Nd.cells, ndRows_eq, List.map_cons, List.map_nil] at hr
        simp -implicitDefEqProofs only [ev, ↓reduceIte, Nat.reduceAdd, Nat.reduceEqDiff, Nat.reduceLeDiff, reduceCtorEq, List.getElem?_map, hx, hxe, Nd.cells, ndRows_eq, Int.natCast_nonneg]
        refine acall_ret hr ?_
        simp -implicitDefEqProofs only [ev, ↓reduceIte, Nat.reduceAdd, Nat.reduceEqDiff, Nat.reduceLeDiff, reduceCtorEq]
        refine ⟨i + 1, by omega, by omega, wk_none ?_⟩
        rw [wrap64 (n := (i : Int) + 1) (by omega) (by omega), sizeW_add]
        simp only [wk, ↓reduceIte, Nat.reduceEqDiff, reduceCtorEq, Nat.reduceLT]
        simp [hsum]
        rw [Nat.add_assoc]
    · simp -implicitDefEqProofs only [ev, ↓reduceIte, Nat.reduceAdd, Nat.reduceEqDiff, Nat.reduceLeDiff, reduceCtorEq]
      have hi' : i = ks.length := by simp at h; omega
      subst hi'
      refine fin_same (.one (by simp)) ?_
      simp [Hp.nil, Nd.size]
theorem f21_all (n : Nat) : ∀ (x : Nd), x.size ≤ n → Ret prog 21 [.agg (x.cells.map .iv)] (.one (sct (.int .i64 (sizeW x.size)))) := by
  induction n with
  | zero => intro x hx; cases x; simp [Nd.size] at hx
  | succ n ih => intro x hx; exact f21_step (n + 1) (fun x h => ih x (by omega)) x hx
theorem f21_ok (x : Nd) : Ret prog 21 [.agg (x.cells.map .iv)] (.one (sct (.int .i64 (sizeW x.size)))) := f21_all _ x (Nat.le_refl _)

theorem f23_step (n : Nat) (ih : ∀ (x : Nd), x.size < n → Ret prog 23 [.agg (x.cells.map .iv)] (.one (sct (.int .i64 x.groups)))) (x : Nd) (hn : x.size ≤ n) :
    Ret prog 23 [.agg (x.cells.map .iv)] (.one (sct (.int .i64 x.groups))) := by
  cases x with
  | mk k c a b z m ks =>
  simp only [Nd.size] at hn
  refine .of r23_ok (by simp [Nd.cells, clsIV]) (.one (by simp)) (by simp [r23]) ?_
  simp only [oo, on, og, om, ol, oh, zN, ci, r23, initTm, Nat.reduceAdd, Nd.cells, List.map_cons, List.map_nil, ndRows_eq]
  simp -implicitDefEqProofs only [ev, ↓reduceIte, Nat.reduceAdd, Nat.reduceEqDiff, Nat.reduceLeDiff, reduceCtorEq, awp_loop]
  refine aloop_mk (σ := Nat) (fun i => [(1, .one (.ip [.sc (.int .i64 k), clsIV c, .sc (.int .i64 a), .sc (.int .i64 b), .sc (.bool z), .sc (.int .i64 m), .sl 7 (ks.map Nd.cells)] 0)), (4, .one (sct (.int .i64 (i : Nat)))), (3, .one (sct (.int .i64 (ndGroups (imax m 0) (ks.take i)))))])
    (fun _ => Hp.nil) (fun i => i ≤ ks.length) (fun i => ks.length - i) 0 (by simp) (wk_none ?_) ?_
  · simp only [wk, ↓reduceIte, Nat.reduceEqDiff, reduceCtorEq, Nat.reduceLT, imax_def]
    simp [ndGroups]
  · intro i hi
    simp only [oo, on, og, om, ol, oh, zN, ci, r23_l0]
    simp -implicitDefEqProofs only [ev, ↓reduceIte, Nat.reduceAdd, Nat.reduceEqDiff, Nat.reduceLeDiff, reduceCtorEq]
    refine .mk fun hb => ?_
    simp -implicitDefEqProofs only [ev, ↓reduceIte, Nat.reduceAdd, Nat.reduceEqDiff, Nat.reduceLeDiff, reduceCtorEq]
    refine .mk (fun h => ?_) (fun h => ?_)
    · have hlt : i < ks.length := by simpa using h
      have hx := List.getElem?_eq_getElem hlt
      have hs := ndSize_mem (List.getElem_mem hlt)
      have hr := ih ks[i] (by omega)
      have hsn : ks.take (i + 1) = ks.take i ++ [ks[i]] := by rw [List.take_add_one, hx]; rfl
      cases hxe : ks[i] with
      | mk k' c' a' b' z' m' ks' =>
        rw [hxe] at hr hs hsn
        simp only [Nd.cells, ndRows_eq, List.map_cons, List.map_nil] at hr
        simp -implicitDefEqProofs only [ev, ↓reduceIte, Nat.reduceAdd, Nat.reduceEqDiff, Nat.reduceLeDiff, reduceCtorEq, List.getElem?_map, hx, hxe, Nd.cells, ndRows_eq, Int.natCast_nonneg]
        refine acall_ret hr ?_
        simp -implicitDefEqProofs only [ev, ↓reduceIte, Nat.reduceAdd, Nat.reduceEqDiff, Nat.reduceLeDiff, reduceCtorEq]
        refine ⟨i + 1, by omega, by omega, wk_none ?_⟩
        rw [wrap64 (by omega) (by omega)]
        simp only [wk, ↓reduceIte, Nat.reduceEqDiff, reduceCtorEq, Nat.reduceLT, imax_def]
        simp [hsn, ndGroups_snoc]
    · simp -implicitDefEqProofs only [ev, ↓reduceIte, Nat.reduceAdd, Nat.reduceEqDiff, Nat.reduceLeDiff, reduceCtorEq]
      have hi' : i = ks.length := by simp at h; omega
      subst hi'
      refine fin_same (.one (by simp)) ?_
      simp [Hp.nil, Nd.groups]
theorem f23_all (n : Nat) : ∀ (x : Nd), x.size ≤ n → Ret prog 23 [.agg (x.cells.map .iv)] (.one (sct (.int .i64 x.groups))) := by
  induction n with
  | zero => intro x hx; cases x; simp [Nd.size] at hx
  | succ n ih => intro x hx; exact f23_step (n + 1) (fun x h => ih x (by omega)) x hx
theorem f23_ok (x : Nd) : Ret prog 23 [.agg (x.cells.map .iv)] (.one (sct (.int .i64 x.groups))) := f23_all _ x (Nat.le_refl _)
end Go.Av

namespace Go.Av
open Go.RowKit Go.Proofs.Tryz

theorem f37_ok (c : Cls) (hc : c.length * 8 ≤ 140737488355328) : Ret prog 37 [.one (.iv (clsIV c))] (.one (.iv (clsIV c))) := by
  refine .of r37_ok (by simp) (.one (by simp [clsIV])) (by simp [r37]) ?_
  simp only [oo, on, og, om, ol, oh, zN, ci, r37, initTm, Nat.reduceAdd, clsIV]
  simp -implicitDefEqProofs only [ev, ↓reduceIte, Nat.reduceAdd, Nat.reduceEqDiff, Nat.reduceLeDiff, reduceCtorEq, awp_loop]
  refine aloop_mk (σ := Nat × Nat) (fun q => [(0, .one (.iv (.sl 2 (c.map Rg.cells)))), (4, .one (sct (.int .i64 (q.1 : Nat)))), (3, .one (.own 0 q.2 0 q.1))])
    (fun q => ⟨[(0, .cells 2 q.2 (rowsOf Rg.cells (c.take q.1)) false)], 1⟩)
    (fun q => q.1 ≤ c.length) (fun q => c.length - q.1) (0, 0) (by simp) (wk_conv [] [2] (by simp) (by simp [Hp.prep, Hp.freeze, Hp.ghost, Hp.new]) (by simp) ?_ ?_ ?_) ?_
  · simp [BsEq, Hp.prep, Hp.freeze, Hp.ghost, Hp.new, Bs.freeze, Bs.get, rowsOf, Hp.nil]
  · exact ⟨rowsOf_low _ _, trivial⟩
  · refine ⟨⟨by simp, _, rfl, .refl _⟩, ⟨by simp, _, rfl, .refl _⟩, ⟨by simp, _, rfl, .one (.nilOwn 0 0 2 [] false ?_ ?_)⟩, trivial⟩
    · simp [Hp.prep, Hp.freeze, Hp.ghost, Hp.new, Bs.freeze, Bs.get, Hp.nil]
    · simp [Hp.prep, Hp.freeze, Hp.ghost, Hp.new, Hp.nil]
  rintro ⟨i, v⟩ hi
  simp only at hi
  simp only [oo, on, og, om, ol, oh, zN, ci, r37_l0]
  simp -implicitDefEqProofs only [ev, ↓reduceIte, Nat.reduceAdd, Nat.reduceEqDiff, Nat.reduceLeDiff, reduceCtorEq]
  refine .mk fun hb => ?_
  simp -implicitDefEqProofs only [ev, ↓reduceIte, Nat.reduceAdd, Nat.reduceEqDiff, Nat.reduceLeDiff, reduceCtorEq]
  refine .mk (fun h => ?_) (fun h => ?_)
  · have hlt : i < c.length := by simpa using h
    have hx := List.getElem?_eq_getElem hlt
    have htk : c.take (i + 1) = c.take i ++ [c[i]] := by rw [List.take_add_one, hx]; rfl
    generalize c[i] = r at hx htk
    cases r with
    | mk lo hi' =>
    simp -implicitDefEqProofs only [ev, ↓reduceIte, Nat.reduceAdd, Nat.reduceEqDiff, Nat.reduceLeDiff, reduceCtorEq, List.getElem?_map, hx, Rg.cells, Int.natCast_nonneg]
    have hln : (rowsOf Rg.cells (c.take i)).length ≤ i := by rw [rowsOf_length, List.length_take]; omega
    rw [List.take_of_length_le hln, wrap64 (by omega) (by omega)]
    refine ⟨⟨by omega, by omega⟩, (i + 1, v + 1), by simp only; omega, by simp only; omega, wk_keep' (by simp) (by simp) ?_ ?_ ?_⟩
    · simp [BsEq, Bs.get, htk, rowsOf, Rg.cells]
    · exact ⟨rowsOf_low _ _, trivial⟩
    · simp only [wk, ↓reduceIte, Nat.reduceEqDiff, reduceCtorEq, Nat.reduceLT]
      simp
  · simp -implicitDefEqProofs only [ev, ↓reduceIte, Nat.reduceAdd, Nat.reduceEqDiff, Nat.reduceLeDiff, reduceCtorEq]
    have hi' : i = c.length := by simp at h; omega
    subst hi'
    rw [List.take_length]
    refine fin_own (f := false) (rows := rowsOf Rg.cells c) (by simp [Bs.get]) ?_ ⟨rfl, rfl⟩
    rw [List.drop_zero, List.take_of_length_le (by rw [rowsOf_length]; exact Nat.le_refl _), rowsOf, List.map_map]
    rfl

mutual
/-- Nodes whose rows are no longer than a machine holds. -/
def Fits : Nd → Prop
  | .mk k c a b z m ks => c.length * 8 ≤ 140737488355328 ∧ (ks.length * 88 ≤ 140737488355328 ∧ FitsL ks)
def FitsL : List Nd → Prop
  | [] => True
  | x :: r => Fits x ∧ FitsL r
end
theorem FitsL.get : ∀ {l : List Nd}, FitsL l → ∀ {x}, x ∈ l → Fits x
  | _ :: _, h, x, hx => by
    rcases List.mem_cons.1 hx with rfl | hx
    · exact h.1
    · exact FitsL.get h.2 hx

def row15 (k : Int) (c : Cls) (a b : Int) (z : Bool) (m : Int) (y : AV) : List AV := [.iv (.sc (.int .i64 k)), .iv (clsIV c), .iv (.sc (.int .i64 a)), .iv (.sc (.int .i64 b)), .iv (.sc (.bool z)), .iv (.sc (.int .i64 m)), y]
def row0 : List AV := [.iv (.sc (.int .i64 0)), .iv (.sc (.slice none 0 0)), .iv (.sc (.int .i64 0)), .iv (.sc (.int .i64 0)), .iv (.sc (.bool false)), .iv (.sc (.int .i64 0)), .iv (.sc (.slice none 0 0))]
def hp15 (k : Int) (c : Cls) (a b : Int) (z : Bool) (m : Int) (ks : List Nd) (i v : Nat) : Hp := match i with
  | 0 => ⟨[(1, .cells 7 0 [row15 k c a b z m (.iv (.sc (.slice none 0 0)))] false), (0, .cells 7 0 [row0] false)], 2⟩
  | i + 1 => ⟨[(2, .cells 7 v (rowsOf Nd.cells (ks.take (i + 1))) false), (1, .cells 7 0 [row15 k c a b z m (.own 2 v 0 (i + 1))] false), (0, .cells 7 0 [row0] false)], 3⟩

theorem f15_step (n : Nat) (ih : ∀ (x : Nd), x.size < n → Fits x → Ret prog 15 [.agg (x.cells.map .iv)] (encN x)) (x : Nd) (hn : x.size ≤ n) (hf : Fits x) :
    Ret prog 15 [.agg (x.cells.map .iv)] (encN x) := by
  cases x with
  | mk k c a b z m ks =>
  simp only [Nd.size] at hn
  obtain ⟨hf1, hf2, hf3⟩ := hf
  have hcls := f37_ok c hf1
  refine .of r15_ok (by simp [Nd.cells, clsIV]) (.agg (by simp [clsIV])) (by simp [r15]) ?_
  simp only [oo, on, og, om, ol, oh, zN, ci, r15, initTm, Nat.reduceAdd, Nd.cells, List.map_cons, List.map_nil, ndRows_eq]
  simp -implicitDefEqProofs only [ev, ↓reduceIte, Nat.reduceAdd, Nat.reduceEqDiff, Nat.reduceSub, Nat.reduceBEq, Nat.reduceLeDiff, reduceCtorEq, List.contains_nil, List.contains_cons, Bool.or_false, Bool.false_or, Bool.false_eq_true, if_true, Same]
  refine gcall_ret hcls ?_
  simp -implicitDefEqProofs only [ev, ↓reduceIte, Nat.reduceAdd, Nat.reduceEqDiff, Nat.reduceSub, Nat.reduceBEq, Nat.reduceLeDiff, reduceCtorEq, List.contains_nil, List.contains_cons, Bool.or_false, Bool.false_or, Bool.or_true, Bool.false_eq_true, if_true, Same]
  refine ⟨acall_ret hcls ⟨rfl, rfl⟩, ?_⟩
  simp -implicitDefEqProofs only [ev, ↓reduceIte, Nat.reduceAdd, Nat.reduceEqDiff, Nat.reduceSub, Nat.reduceBEq, Nat.reduceLeDiff, reduceCtorEq, awp_loop]
  refine aloop_mk (σ := Nat × Nat) (fun q => [(1, .one (.ip [.sc (.int .i64 k), clsIV c, .sc (.int .i64 a), .sc (.int .i64 b), .sc (.bool z), .sc (.int .i64 m), .sl 7 (ks.map Nd.cells)] 0)), (2, .one (.ptr 0 0 0 0)), (3, .one (.ptr 1 0 0 0)), (4, .one (sct (.int .i64 (q.1 : Nat))))])
    (fun q => hp15 k c a b z m ks q.1 q.2) (fun q => q.1 ≤ ks.length) (fun q => ks.length - q.1) (0, 0) (by simp) (wk_keep' (by simp [hp15]) (by simp) ?_ ?_ ?_) ?_
  · simp [BsEq, Bs.get, hp15, row15, row0]
  · simp [LowBs, hp15, Blk.lows, clsIV, row15, row0]
  · simp only [hp15]
    simp only [wk, ↓reduceIte, Nat.reduceEqDiff, reduceCtorEq, Nat.reduceLT]
    simp
  rintro ⟨i, v⟩ hi
  simp only at hi
  simp only [oo, on, og, om, ol, oh, zN, ci, r15_l0]
  simp -implicitDefEqProofs only [ev, ↓reduceIte, Nat.reduceAdd, Nat.reduceEqDiff, Nat.reduceSub, Nat.reduceBEq, Nat.reduceLeDiff, reduceCtorEq]
  refine .mk fun hb => ?_
  simp -implicitDefEqProofs only [ev, ↓reduceIte, Nat.reduceAdd, Nat.reduceEqDiff, Nat.reduceSub, Nat.reduceBEq, Nat.reduceLeDiff, reduceCtorEq]
  refine .mk (fun h => ?_) (fun h => ?_)
  · have hlt : i < ks.length := by simpa using h
    have hx := List.getElem?_eq_getElem hlt
    have hs := ndSize_mem (List.getElem_mem hlt)
    have hr := ih ks[i] (by omega) (hf3.get (List.getElem_mem hlt))
    have htk : ks.take (i + 1) = ks.take i ++ [ks[i]] := by rw [List.take_add_one, hx]; rfl
    have hwi : IntKind.i64.wrap ((i : Int) + 1) = ((i + 1 : Nat) : Int) := wrap64 (by omega) (by omega)
    generalize ks[i] = u at hx hs hr htk
    cases u with
    | mk k1 c1 a1 b1 z1 m1 ks1 =>
    simp only [Nd.cells, ndRows_eq, List.map_cons, List.map_nil, encN] at hr
    rcases i with _ | i
    · simp only [hp15, row15, row0]
      simp -implicitDefEqProofs only [ev, ↓reduceIte, Nat.reduceAdd, Nat.reduceEqDiff, Nat.reduceSub, Nat.reduceBEq, Nat.reduceLeDiff, reduceCtorEq, List.getElem?_map, hx, Nd.cells, ndRows_eq, Int.natCast_nonneg, Int.natCast_zero]
      refine ⟨Int.le_refl _, dcall_ret hr ?_⟩
      simp -implicitDefEqProofs only [ev, ↓reduceIte, Nat.reduceAdd, Nat.reduceEqDiff, Nat.reduceSub, Nat.reduceBEq, Nat.reduceLeDiff, reduceCtorEq]
      rw [show IntKind.i64.wrap ((0 : Int) + 1) = ((1 : Nat) : Int) from wrap64 (by decide) (by decide)]
      refine ⟨by decide, (1, 0), by simp only; omega, by simp only; omega, wk_keep' (by simp [hp15]) (by simp) ?_ ?_ ?_⟩
      · simp [BsEq, Bs.get, hp15, row15, row0, htk, rowsOf, Nd.cells, ndRows_eq]
      · exact ⟨rowsOf_low _ _, by simp [Blk.lows, clsIV, row15], by simp [Blk.lows, row0], trivial⟩
      · simp only [hp15]
        simp only [wk, ↓reduceIte, Nat.reduceEqDiff, reduceCtorEq, Nat.reduceLT]
    · simp only [hp15, row15, row0]
      simp -implicitDefEqProofs only [ev, ↓reduceIte, Nat.reduceAdd, Nat.reduceEqDiff, Nat.reduceSub, Nat.reduceBEq, Nat.reduceLeDiff, reduceCtorEq, List.getElem?_map, hx, Nd.cells, ndRows_eq, Int.natCast_nonneg]
      refine dcall_ret hr ?_
      simp -implicitDefEqProofs only [ev, ↓reduceIte, Nat.reduceAdd, Nat.reduceEqDiff, Nat.reduceSub, Nat.reduceBEq, Nat.reduceLeDiff, reduceCtorEq]
      have hln : (rowsOf Nd.cells (ks.take (i + 1))).length ≤ i + 1 := by rw [rowsOf_length, List.length_take]; omega
      rw [List.take_of_length_le hln, hwi]
      refine ⟨⟨by omega, by omega⟩, (i + 2, v + 1), by simp only; omega, by simp only; omega, wk_keep' (by simp [hp15]) (by simp) ?_ ?_ ?_⟩
      · simp only [hp15]
        rw [htk]
        simp [BsEq, Bs.get, row15, row0, rowsOf, Nd.cells, ndRows_eq]
      · exact ⟨rowsOf_low _ _, by simp [Blk.lows, clsIV, row15], by simp [Blk.lows, row0], trivial⟩
      · simp only [hp15]
        simp only [wk, ↓reduceIte, Nat.reduceEqDiff, reduceCtorEq, Nat.reduceLT]
  · rcases i with _ | i
    · simp only [hp15, row15, row0]
      simp -implicitDefEqProofs only [ev, ↓reduceIte, Nat.reduceAdd, Nat.reduceEqDiff, Nat.reduceSub, Nat.reduceBEq, Nat.reduceLeDiff, reduceCtorEq]
      have hks : ks = [] := List.eq_nil_of_length_eq_zero (by have := of_decide_eq_false h; omega)
      subst hks
      exact fin_ret [] (.lv (.agg (.cons (.refl _) (.cons (.refl _) (.cons (.refl _) (.cons (.refl _) (.cons (.refl _) (.cons (.refl _) (.cons (.nilSl 7) .nil))))))))) (.agg (by simp [clsIV])) ⟨rfl, rfl⟩
    · simp only [hp15, row15, row0]
      simp -implicitDefEqProofs only [ev, ↓reduceIte, Nat.reduceAdd, Nat.reduceEqDiff, Nat.reduceSub, Nat.reduceBEq, Nat.reduceLeDiff, reduceCtorEq]
      have hil : i + 1 = ks.length := by have := of_decide_eq_false h; omega
      rw [hil, List.take_length]
      refine fin_ret [2] (.lv (.agg (.cons (.refl _) (.cons (.refl _) (.cons (.refl _) (.cons (.refl _) (.cons (.refl _) (.cons (.refl _) (.cons ?_ .nil))))))))) (lv0 := encN (.mk k c a b z m ks)) (.agg (by simp [clsIV])) ⟨rfl, rfl⟩
      rw [ndRows_eq]
      exact cv_own (f := false) (rows := rowsOf Nd.cells ks) (by simp [Bs.get]) (by simp) (by rw [List.drop_zero, List.take_of_length_le (by rw [rowsOf_length]; exact Nat.le_refl _), rowsOf, List.map_map]; rfl)

theorem f15_all (n : Nat) : ∀ (x : Nd), x.size ≤ n → Fits x → Ret prog 15 [.agg (x.cells.map .iv)] (encN x) := by
  induction n with
  | zero => intro x hx; cases x; simp [Nd.size] at hx
  | succ n ih => intro x hx hf; exact f15_step (n + 1) (fun x h hf => ih x (by omega) hf) x hx hf
theorem f15_ok (x : Nd) (hf : Fits x) : Ret prog 15 [.agg (x.cells.map .iv)] (encN x) := f15_all _ x (Nat.le_refl _) hf
end Go.Av

namespace Go.Av
open Go.RowKit Go.Proofs.Tryz

/-! ### nodes of few bytes -/
def leafLo (b : Int) : Int := IntKind.i32.wrap (97 + IntKind.i32.wrap ((IntKind.u8.wrap (b.tdiv 12)).tmod 3))
def leafHi (b : Int) : Int := IntKind.i32.wrap (leafLo b + IntKind.i32.wrap ((IntKind.u8.wrap (b.tdiv 36)).tmod 2))
def leafN (b : Int) : Nd :=
  if b.tmod 12 == 0 then plainN 2 else if b.tmod 12 == 1 then plainN 3 else if b.tmod 12 == 2 then plainN 4 else if b.tmod 12 == 3 then plainN 5
  else if b.tmod 12 == 4 then emptyN else if b.tmod 12 == 5 then oneN (notL [⟨97, 97⟩]) else oneN [⟨leafLo b, leafHi b⟩]

theorem fin_node {k a b m : Int} {z : Bool} {hp : Hp} {Q : AE → Hp → Prop} (hq : Q (.ret (encN (.mk k [] a b z m []))) Hp.nil) : Fin 0 Q (.agg [.iv (.sc (.int .i64 k)), .iv (.sc (.slice none 0 0)), .iv (.sc (.int .i64 a)), .iv (.sc (.int .i64 b)), .iv (.sc (.bool z)), .iv (.sc (.int .i64 m)), .iv (.sc (.slice none 0 0))]) hp :=
  fin_ret [] (.lv (.agg (.cons (.refl _) (.cons (.nilSl 2) (.cons (.refl _) (.cons (.refl _) (.cons (.refl _) (.cons (.refl _) (.cons (.nilSl 7) .nil))))))))) (encN_low (.mk k [] a b z m [])) hq
theorem fin_nodec {k a b m : Int} {z : Bool} {c : Cls} {hp : Hp} {Q : AE → Hp → Prop} (hq : Q (.ret (encN (.mk k c a b z m []))) Hp.nil) : Fin 0 Q (.agg [.iv (.sc (.int .i64 k)), .iv (clsIV c), .iv (.sc (.int .i64 a)), .iv (.sc (.int .i64 b)), .iv (.sc (.bool z)), .iv (.sc (.int .i64 m)), .iv (.sc (.slice none 0 0))]) hp :=
  fin_ret [] (.lv (.agg (.cons (.refl _) (.cons (.refl _) (.cons (.refl _) (.cons (.refl _) (.cons (.refl _) (.cons (.refl _) (.cons (.nilSl 7) .nil))))))))) (encN_low (.mk k c a b z m [])) hq

theorem f26_ok (b : Int) : Ret prog 26 [.one (sct (.int .u8 b))] (encN (leafN b)) := by
  have hn := f46_ok (fun r0 l hb => f67_ok sort_ok merge_ok r0 l hb) ⟨97, 97⟩ [] (by decide)
  simp only [clsIV, Rg.cells, List.map_cons, List.map_nil] at hn
  refine .of r26_ok (by simp) (encN_low _) (by simp [r26]) ?_
  simp only [oo, on, og, om, ol, oh, zN, ci, r26, initTm, Nat.reduceAdd]
  generalize hR : encN (leafN b) = R
  simp -implicitDefEqProofs only [ev, ↓reduceIte, Nat.reduceAdd, Nat.reduceEqDiff, Nat.reduceLeDiff, reduceCtorEq]
  refine ⟨by decide, ?_⟩
  refine .mk (fun h0 => ?_) (fun h0 => ?_)
  · simp -implicitDefEqProofs only [ev, ↓reduceIte, Nat.reduceAdd, Nat.reduceEqDiff, Nat.reduceLeDiff, reduceCtorEq]
    exact fin_node ⟨by rw [← hR]; simp only [leafN, h0, if_true, Bool.false_eq_true, if_false]; rfl, rfl⟩
  simp -implicitDefEqProofs only [ev, ↓reduceIte, Nat.reduceAdd, Nat.reduceEqDiff, Nat.reduceLeDiff, reduceCtorEq]
  refine .mk (fun h1 => ?_) (fun h1 => ?_)
  · simp -implicitDefEqProofs only [ev, ↓reduceIte, Nat.reduceAdd, Nat.reduceEqDiff, Nat.reduceLeDiff, reduceCtorEq]
    exact fin_node ⟨by rw [← hR]; simp only [leafN, h0, h1, if_true, Bool.false_eq_true, if_false]; rfl, rfl⟩
  simp -implicitDefEqProofs only [ev, ↓reduceIte, Nat.reduceAdd, Nat.reduceEqDiff, Nat.reduceLeDiff, reduceCtorEq]
  refine .mk (fun h2 => ?_) (fun h2 => ?_)
  · simp -implicitDefEqProofs only [ev, ↓reduceIte, Nat.reduceAdd, Nat.reduceEqDiff, Nat.reduceLeDiff, reduceCtorEq]
    exact fin_node ⟨by rw [← hR]; simp only [leafN, h0, h1, h2, if_true, Bool.false_eq_true, if_false]; rfl, rfl⟩
  simp -implicitDefEqProofs only [ev, ↓reduceIte, Nat.reduceAdd, Nat.reduceEqDiff, Nat.reduceLeDiff, reduceCtorEq]
  refine .mk (fun h3 => ?_) (fun h3 => ?_)
  · simp -implicitDefEqProofs only [ev, ↓reduceIte, Nat.reduceAdd, Nat.reduceEqDiff, Nat.reduceLeDiff, reduceCtorEq]
    exact fin_node ⟨by rw [← hR]; simp only [leafN, h0, h1, h2, h3, if_true, Bool.false_eq_true, if_false]; rfl, rfl⟩
  simp -implicitDefEqProofs only [ev, ↓reduceIte, Nat.reduceAdd, Nat.reduceEqDiff, Nat.reduceLeDiff, reduceCtorEq]
  refine .mk (fun h4 => ?_) (fun h4 => ?_)
  · simp -implicitDefEqProofs only [ev, ↓reduceIte, Nat.reduceAdd, Nat.reduceEqDiff, Nat.reduceLeDiff, reduceCtorEq]
    exact fin_node ⟨by rw [← hR]; simp only [leafN, h0, h1, h2, h3, h4, if_true, Bool.false_eq_true, if_false]; rfl, rfl⟩
  simp -implicitDefEqProofs only [ev, ↓reduceIte, Nat.reduceAdd, Nat.reduceEqDiff, Nat.reduceLeDiff, reduceCtorEq]
  refine .mk (fun h5 => ?_) (fun h5 => ?_)
  · simp -implicitDefEqProofs only [ev, ↓reduceIte, Nat.reduceAdd, Nat.reduceEqDiff, Nat.reduceLeDiff, reduceCtorEq]
    refine acall_ret hn ?_
    simp -implicitDefEqProofs only [ev, ↓reduceIte, Nat.reduceAdd, Nat.reduceEqDiff, Nat.reduceLeDiff, reduceCtorEq]
    exact fin_nodec (c := notL [⟨97, 97⟩]) ⟨by rw [← hR]; simp only [leafN, h0, h1, h2, h3, h4, h5, if_true, Bool.false_eq_true, if_false]; rfl, rfl⟩
  simp -implicitDefEqProofs only [ev, ↓reduceIte, Nat.reduceAdd, Nat.reduceEqDiff, Nat.reduceLeDiff, reduceCtorEq]
  refine ⟨by decide, by decide, by decide, by decide, ?_⟩
  exact fin_nodec (c := [⟨leafLo b, leafHi b⟩]) ⟨by rw [← hR]; simp only [leafN, h0, h1, h2, h3, h4, h5, if_true, Bool.false_eq_true, if_false]; rfl, rfl⟩

theorem fin_nodek {k a b m : Int} {z : Bool} {ks : List Nd} {hp : Hp} {Q : AE → Hp → Prop} (hq : Q (.ret (encN (.mk k [] a b z m ks))) Hp.nil) : Fin 0 Q (.agg [.iv (.sc (.int .i64 k)), .iv (.sc (.slice none 0 0)), .iv (.sc (.int .i64 a)), .iv (.sc (.int .i64 b)), .iv (.sc (.bool z)), .iv (.sc (.int .i64 m)), .iv (.sl 7 (ks.map Nd.cells))]) hp := by
  rw [← ndRows_eq]
  exact fin_ret [] (.lv (.agg (.cons (.refl _) (.cons (.nilSl 2) (.cons (.refl _) (.cons (.refl _) (.cons (.refl _) (.cons (.refl _) (.cons (.refl _) .nil))))))))) (encN_low (.mk k [] a b z m ks)) hq
theorem cells_mk (k : Int) (c : Cls) (a b : Int) (z : Bool) (m : Int) (ks : List Nd) : [IV.sc (.int .i64 k), clsIV c, .sc (.int .i64 a), .sc (.int .i64 b), .sc (.bool z), .sc (.int .i64 m), .sl 7 (ks.map Nd.cells)] = (Nd.mk k c a b z m ks).cells := by
  rw [Nd.cells, ndRows_eq]
def formsT : List (Int × Int) := [(0, -1), (1, -1), (0, 1), (2, 2), (0, 2), (2, -1), (1, 3), (0, 0)]
def repK (b : Int) (plain : Bool) : Nat := (if plain then b.tmod 3 else b.tmod 8).toNat
def repeatN (b : Int) (x : Nd) (plain : Bool) : Nd := repN (formsT.getD (repK b plain) (0, 0)).1 (formsT.getD (repK b plain) (0, 0)).2 ((IntKind.u8.wrap (b.tdiv 8)).tmod 2 == 1) x

theorem f25_ok (b : Int) (hb : 0 ≤ b) (x : Nd) (plain : Bool) : Ret prog 25 [.one (sct (.int .u8 b)), .agg (x.cells.map .iv), .one (sct (.bool plain))] (encN (repeatN b x plain)) := by
  cases x with
  | mk k c a b' z m ks =>
  refine .of r25_ok (by simp [Nd.cells, clsIV]) (encN_low _) (by simp [r25]) ?_
  simp only [oo, on, og, om, ol, oh, zN, ci, r25, initTm, Nat.reduceAdd, Nd.cells, ndRows_eq, List.map_cons, List.map_nil]
  generalize hR : encN (repeatN b (.mk k c a b' z m ks) plain) = R
  have k8 : 0 ≤ b.tmod 8 ∧ b.tmod 8 < 8 := ⟨Int.tmod_nonneg 8 hb, Int.tmod_lt_of_pos b (by decide)⟩
  have k3 : 0 ≤ b.tmod 3 ∧ b.tmod 3 < 3 := ⟨Int.tmod_nonneg 3 hb, Int.tmod_lt_of_pos b (by decide)⟩
  have w8 : IntKind.i64.wrap (b.tmod 8) = b.tmod 8 := wrap64 (by omega) (by omega)
  have w3 : IntKind.i64.wrap (b.tmod 3) = b.tmod 3 := wrap64 (by omega) (by omega)
  have hg : ∀ j : Nat, j < 8 → ([[IV.sl 1 [[IV.sc (.int .i64 0)], [IV.sc (.int .i64 (-1))]]], [IV.sl 1 [[IV.sc (.int .i64 1)], [IV.sc (.int .i64 (-1))]]], [IV.sl 1 [[IV.sc (.int .i64 0)], [IV.sc (.int .i64 1)]]], [IV.sl 1 [[IV.sc (.int .i64 2)], [IV.sc (.int .i64 2)]]], [IV.sl 1 [[IV.sc (.int .i64 0)], [IV.sc (.int .i64 2)]]], [IV.sl 1 [[IV.sc (.int .i64 2)], [IV.sc (.int .i64 (-1))]]], [IV.sl 1 [[IV.sc (.int .i64 1)], [IV.sc (.int .i64 3)]]], [IV.sl 1 [[IV.sc (.int .i64 0)], [IV.sc (.int .i64 0)]]]] : List (List IV))[j]? = some [IV.sl 1 [[IV.sc (.int .i64 (formsT.getD j (0, 0)).1)], [IV.sc (.int .i64 (formsT.getD j (0, 0)).2)]]] := by
    intro j hj
    have : j = 0 ∨ j = 1 ∨ j = 2 ∨ j = 3 ∨ j = 4 ∨ j = 5 ∨ j = 6 ∨ j = 7 := by omega
    rcases this with e | e | e | e | e | e | e | e <;> rw [e] <;> rfl
  cases plain with
  | true =>
    have hg' := hg (b.tmod 3).toNat (by omega)
    simp -implicitDefEqProofs only [ev, ↓reduceIte, Nat.reduceAdd, Nat.reduceEqDiff, Nat.reduceLeDiff, reduceCtorEq, w8, w3, hg']
    refine ⟨by decide, by decide, k3.1, by decide, k3.1, by decide, by decide, by decide, ?_⟩
    rw [cells_mk]
    exact fin_nodek (ks := [_]) ⟨by rw [← hR]; rfl, rfl⟩
  | false =>
    have hg' := hg (b.tmod 8).toNat (by omega)
    simp -implicitDefEqProofs only [ev, ↓reduceIte, Nat.reduceAdd, Nat.reduceEqDiff, Nat.reduceLeDiff, reduceCtorEq, w8, hg']
    refine ⟨by decide, k8.1, by decide, k8.1, by decide, by decide, by decide, ?_⟩
    rw [cells_mk]
    exact fin_nodek (ks := [_]) ⟨by rw [← hR]; rfl, rfl⟩
end Go.Av

namespace Go.Av
open Go.RowKit Go.Proofs.Tryz

/-! ### trees by few bytes -/
def altOf (l : List Nd) : Nd := .mk 7 [] 0 0 false 0 l
def catOf (l : List Nd) : Nd := .mk 6 [] 0 0 false 0 l
/-- One byte: the nodes that stand (the last one ahead), how many groups there are. -/
def stepN (plain : Bool) (q : List Nd × Int) (b : Int) : List Nd × Int := match q.1 with
  | y :: T =>
    if decide (b ≥ 228) && decide (1 ≤ T.length) then (altOf [T.headD emptyN, y] :: T.tail, q.2) else if decide (b ≥ 184) && decide (1 ≤ T.length) then (catOf [T.headD emptyN, y] :: T.tail, q.2)
    else if decide (b ≥ 136) then (repeatN b y plain :: T, q.2)
    else if decide (b ≥ 118) && decide (q.2 < 8) then (groupN (q.2 + 1) y :: T, q.2 + 1) else (leafN b :: q.1, q.2)
  | [] => (leafN b :: q.1, q.2)
def treeN (plain : Bool) (l : List Int) : Nd := (((l.take 16).foldl (stepN plain) ([], 0)).1).headD emptyN
def boxTree (x : Nd) (own : Bool) (l : List Int) : List IV := x.cells ++ [.sc (.bool own), .sl 1 (l.map u8Row)]
def rowZ : List AV := [.iv (.sc (.int .i64 0)), .iv (.sc (.slice none 0 0)), .iv (.sc (.int .i64 0)), .iv (.sc (.int .i64 0)), .iv (.sc (.bool false)), .iv (.sc (.int .i64 0)), .iv (.sc (.slice none 0 0))]

/-- The same state, cells told otherwise. -/
def BsC (H : Hp) (n : Nat) (bs : Bs) : Bs → Prop
  | [] => True
  | (b, x) :: r => (b < n ∧ ∃ y, bs.get b = some y ∧ BCv H y x) ∧ BsC H n bs r
theorem BsC.get {H : Hp} {n : Nat} {bs : Bs} : ∀ {bs0 : Bs}, BsC H n bs bs0 → ∀ b x, Bs.get bs0 b = some x → b < n ∧ ∃ y, bs.get b = some y ∧ BCv H y x
  | [], _, t, lv, h => by cases h
  | (a, x) :: r, hw, t, lv, h => by
    simp only [Bs.get] at h
    split at h
    · rename_i e
      simp only [Option.some.injEq] at h
      subst e; subst h
      exact hw.1
    · exact BsC.get hw.2 t lv h
theorem wk_keepc {k m : Nat} {tm tm0 : Tm} {hp : Hp} {bs0 : Bs} (hm : m ≤ hp.nxt) (hk : k ≤ m) (hb : BsC hp m hp.bs bs0) (hc : LowBs m bs0) (h : WkEq m tm tm0) : Wk k tm hp tm0 ⟨bs0, m⟩ := by
  refine ⟨[], [], List.range m, by simp, ?_, closed_of hc, fun b hbk => by rw [List.getElem?_range (by omega)], fun t lv ht => ?_⟩
  · rw [Hp.prep_nil]
    refine ⟨List.nodup_range, fun i hi => by have := List.mem_range.1 hi; omega, by simp, fun b x hx hb' => ?_, fun b x hx => (hb.get b x hx).1⟩
    obtain ⟨h1, y, h2, h3⟩ := hb.get b x hx
    refine ⟨y, by rw [ridx_range h1]; exact h2, ?_⟩
    rw [Blk.ren_low (n := m) (fun i hi => ridx_range hi)]
    · exact h3
    · rintro sz ver rows fz rfl row hr z hz
      exact hc.get b _ hx row hr z hz
  · obtain ⟨h1, h2⟩ := h.get t lv ht
    refine ⟨h1, lv, h2, ?_⟩
    rw [LV.ren_low (n := m) (fun i hi => ridx_range hi) h1]
    exact .refl lv
theorem cvl_refl (H : Hp) : ∀ l : List AV, CvL H l l
  | [] => .nil
  | x :: r => .cons (.refl x) (cvl_refl H r)
theorem bcv_snoc {H : Hp} {sz ver : Nat} {A : List (List AV)} {r r' : List AV} {fz : Bool} (h : CvL H r r') : BCv H (.cells sz ver (A ++ [r]) fz) (.cells sz ver (A ++ [r']) fz) := by
  refine .cells _ _ _ _ _ (by simp) fun i q hq => ?_
  by_cases hi : i < A.length
  · rw [List.getElem?_append_left hi] at hq ⊢
    exact ⟨q, hq, cvl_refl _ _⟩
  · rw [List.getElem?_append_right (by omega)] at hq ⊢
    have : i - A.length = 0 := by
      have := (List.getElem?_eq_some_iff.1 hq).1
      simp at this; omega
    rw [this] at hq ⊢
    simp at hq
    subst hq
    exact ⟨r, rfl, h⟩

theorem bcv_push {H : Hp} {ver : Nat} {x : Nd} {t : List Nd} {r : List AV} (h : CvL H r (x.cells.map .iv)) : BCv H (.cells 7 ver (rowsOf Nd.cells t.reverse ++ [r]) false) (.cells 7 ver (rowsOf Nd.cells (x :: t).reverse) false) := by
  have : rowsOf Nd.cells (x :: t).reverse = rowsOf Nd.cells t.reverse ++ [x.cells.map .iv] := by simp [rowsOf]
  rw [this]
  exact bcv_snoc h
theorem bsc_stack {hp : Hp} {ver : Nat} {x : Nd} {t : List Nd} {r : List AV} (h0 : hp.bs.get 0 = some (.cells 7 0 [rowZ] false)) (h1 : hp.bs.get 1 = some (.cells 7 ver (rowsOf Nd.cells t.reverse ++ [r]) false)) (hc : CvL hp r (x.cells.map .iv)) :
    BsC hp 2 hp.bs [(0, .cells 7 0 [rowZ] false), (1, .cells 7 ver (rowsOf Nd.cells (x :: t).reverse) false)] :=
  ⟨⟨by decide, _, h0, .refl _⟩, ⟨by decide, _, h1, bcv_push hc⟩, trivial⟩

theorem cvl_node {H : Hp} (k a b : Int) (z : Bool) (m : Int) (ks : List Nd) : CvL H [.iv (.sc (.int .i64 k)), .iv (.sc (.slice none 0 0)), .iv (.sc (.int .i64 a)), .iv (.sc (.int .i64 b)), .iv (.sc (.bool z)), .iv (.sc (.int .i64 m)), .iv (.sl 7 (ks.map Nd.cells))] ((Nd.mk k [] a b z m ks).cells.map .iv) := by
  rw [← ndRows_eq]
  exact .cons (.refl _) (.cons (.nilSl 2) (.cons (.refl _) (.cons (.refl _) (.cons (.refl _) (.cons (.refl _) (.cons (.refl _) .nil))))))
theorem cvl_enc {H : Hp} (x : Nd) : CvL H (x.cells.map .iv) (x.cells.map .iv) := cvl_refl _ _

set_option maxHeartbeats 2000000 in
theorem f10_ok (x : Nd) (own plain : Bool) (l : List Int) (hl : ∀ b ∈ l, 0 ≤ b) : Ret prog 10 [.agg ((boxTree x own l).map .iv), .one (sct (.bool plain))] (encN (if own then treeN plain l else x)) := by
  cases x with
  | mk k c a b z m ks =>
  refine .of r10_ok (by simp [boxTree, Nd.cells, clsIV]) (encN_low _) (by simp [r10]) ?_
  simp only [oo, on, og, om, ol, oh, zN, ci, r10, initTm, Nat.reduceAdd, boxTree, Nd.cells, ndRows_eq, List.cons_append, List.nil_append, List.map_cons, List.map_nil]
  cases own with
  | false =>
    simp -implicitDefEqProofs only [ev, ↓reduceIte, Nat.reduceAdd, Nat.reduceEqDiff, Nat.reduceLeDiff, reduceCtorEq]
    rw [← ndRows_eq]
    exact fin_same (encN_low (.mk k c a b z m ks)) ⟨rfl, rfl⟩
  | true =>
    simp only [if_true]
    generalize hR : treeN plain l = R
    simp -implicitDefEqProofs only [ev, ↓reduceIte, Nat.reduceAdd, Nat.reduceEqDiff, Nat.reduceLeDiff, reduceCtorEq, awp_loop]
    refine aloop_mk (σ := Nat × (List Nd × Int) × Nat) (fun q => [(1, .one (sct (.bool plain))), (2, .one (.ip [.sc (.int .i64 k), clsIV c, .sc (.int .i64 a), .sc (.int .i64 b), .sc (.bool z), .sc (.int .i64 m), .sl 7 (ks.map Nd.cells), .sc (.bool true), .sl 1 (l.map u8Row)] 0)), (4, .one (.ptr 0 0 0 0)), (6, .one (sct (.int .i64 q.2.1.2))), (7, .one (sct (.int .i64 (q.1 : Nat)))), (5, .one (.own 1 q.2.2 0 q.2.1.1.length))])
      (fun q => ⟨[(0, .cells 7 0 [rowZ] false), (1, .cells 7 q.2.2 (rowsOf Nd.cells q.2.1.1.reverse) false)], 2⟩) (fun q => q.1 ≤ l.length ∧ q.1 ≤ 16 ∧ q.2.1.1.length ≤ q.1 ∧ 0 ≤ q.2.1.2 ∧ q.2.1.2 ≤ 8 ∧ (((l.take 16).drop q.1).foldl (stepN plain) q.2.1).1.headD emptyN = R) (fun q => l.length - q.1) (0, ([], 0), 0)
      ⟨by simp, by simp, by simp, by simp, by simp, by rw [← hR]; rfl⟩ (wk_conv [] [7] (by simp) (by simp [Hp.prep, Hp.freeze, Hp.ghost, Hp.new]) (by simp) ?_ ?_ ?_) ?_
    · simp [BsEq, Hp.prep, Hp.freeze, Hp.ghost, Hp.new, Bs.freeze, Bs.get, rowsOf, rowZ]
    · exact ⟨by simp [Blk.lows, rowZ], rowsOf_low _ _, trivial⟩
    · refine ⟨⟨by simp, _, rfl, .refl _⟩, ⟨by simp, _, rfl, .refl _⟩, ⟨by simp, _, rfl, .refl _⟩, ⟨by simp, _, rfl, .refl _⟩, ⟨by simp, _, rfl, .refl _⟩, ⟨by simp, _, rfl, .one (.nilOwn 1 0 7 [] false ?_ ?_)⟩, trivial⟩
      · simp [Hp.prep, Hp.freeze, Hp.ghost, Hp.new, Bs.freeze, Bs.get]
      · simp [Hp.prep, Hp.freeze, Hp.ghost, Hp.new]
    rintro ⟨i, ⟨r, g⟩, v⟩ ⟨hi, hi16, hrl, hg0, hg8, hF⟩
    simp only at hi hi16 hrl hg0 hg8 hF
    simp only [oo, on, og, om, ol, oh, zN, ci, r10_l0]
    simp -implicitDefEqProofs only [ev, ↓reduceIte, Nat.reduceAdd, Nat.reduceEqDiff, Nat.reduceLeDiff, reduceCtorEq]
    refine .mk fun hb => ?_
    simp -implicitDefEqProofs only [ev, ↓reduceIte, Nat.reduceAdd, Nat.reduceEqDiff, Nat.reduceLeDiff, reduceCtorEq]
    have endl : ¬ (i < l.length ∧ i < 16) → r.headD emptyN = R := by
      intro h
      have : (l.take 16).length ≤ i := by rw [List.length_take]; omega
      rw [List.drop_eq_nil_of_le this] at hF
      exact hF
    refine .mk (fun h => ?_) (fun h => ?_)
    · simp -implicitDefEqProofs only [ev, ↓reduceIte, Nat.reduceAdd, Nat.reduceEqDiff, Nat.reduceLeDiff, reduceCtorEq]
      refine .mk (fun h2 => ?_) (fun h2 => ?_)
      · have hlt : i < l.length := by simpa using h
        have hlt2 : i < 16 := by have := of_decide_eq_true h2; omega
        have hx := List.getElem?_eq_getElem hlt
        have hb0 : 0 ≤ l[i] := hl _ (List.getElem_mem hlt)
        have hd : (l.take 16).drop i = l[i] :: (l.take 16).drop (i + 1) := by
          have hlt' : i < (l.take 16).length := by rw [List.length_take]; omega
          rw [List.drop_eq_getElem_cons hlt', List.getElem_take]
        rw [hd, List.foldl_cons] at hF
        generalize l[i] = d at hx hb0 hF
        simp -implicitDefEqProofs only [ev, ↓reduceIte, Nat.reduceAdd, Nat.reduceEqDiff, Nat.reduceLeDiff, reduceCtorEq, List.getElem?_map, hx, u8Row, Int.natCast_nonneg]
        refine .mk fun hg1 => ?_
        have hleaf := f26_ok d
        rcases r with _ | ⟨y, T⟩
        · have z2 : decide ((0 : Int) ≥ 2) = false := rfl
          have z1 : decide ((0 : Int) ≥ 1) = false := rfl
          have hst : stepN plain ([], g) d = ([leafN d], g) := rfl
          rw [hst] at hF
          generalize leafN d = q at hF hleaf
          cases q with
          | mk kq cq aq bq zq mq ksq =>
          simp only [encN, Nd.cells, ndRows_eq, List.map_cons, List.map_nil] at hleaf
          have hr0 : rowsOf Nd.cells ([] : List Nd).reverse = [] := rfl
          simp -implicitDefEqProofs only [ev, ↓reduceIte, Nat.reduceAdd, Nat.reduceEqDiff, Nat.reduceLeDiff, reduceCtorEq, List.length_nil, Int.natCast_zero]
          refine .mk (fun a1 => ?_) (fun a1 => ?_) <;> simp -implicitDefEqProofs only [ev, ↓reduceIte, Nat.reduceAdd, Nat.reduceEqDiff, Nat.reduceLeDiff, reduceCtorEq, z2] <;> refine .mk (fun a2 => ?_) (fun a2 => ?_) <;> simp -implicitDefEqProofs only [ev, ↓reduceIte, Nat.reduceAdd, Nat.reduceEqDiff, Nat.reduceLeDiff, reduceCtorEq, z2] <;> refine .mk (fun a3 => ?_) (fun a3 => ?_) <;> simp -implicitDefEqProofs only [ev, ↓reduceIte, Nat.reduceAdd, Nat.reduceEqDiff, Nat.reduceLeDiff, reduceCtorEq, z1] <;> refine .mk (fun a4 => ?_) (fun a4 => ?_) <;> simp -implicitDefEqProofs only [ev, ↓reduceIte, Nat.reduceAdd, Nat.reduceEqDiff, Nat.reduceLeDiff, reduceCtorEq, z1] <;> refine acall_ret hleaf ?_ <;> simp -implicitDefEqProofs only [ev, ↓reduceIte, Nat.reduceAdd, Nat.reduceEqDiff, Nat.reduceLeDiff, reduceCtorEq, hr0]
          all_goals
            rw [wrap64 (n := (i : Int) + 1) (by omega) (by omega)]
            refine ⟨by decide, (i + 1, ([Nd.mk kq cq aq bq zq mq ksq], g), v + 1), ⟨by simp only; omega, by simp only; omega, by simp only [List.length_cons, List.length_nil]; omega, hg0, hg8, hF⟩, by simp only; omega, ?_⟩
            refine wk_keepc (by simp) (by simp) (bsc_stack (t := []) rfl rfl ?_) ?_ ?_
            · rw [← ndRows_eq]
              exact cvl_enc (Nd.mk kq cq aq bq zq mq ksq)
            · exact ⟨by simp [Blk.lows, rowZ], rowsOf_low _ _, trivial⟩
            · simp only [wk, ↓reduceIte, Nat.reduceEqDiff, reduceCtorEq, Nat.reduceLT]
              simp
        · have hTl : T.length + 1 ≤ i := by simpa using hrl
          have n1 : decide (((T.length + 1 : Nat) : Int) ≥ 1) = true := by simp; omega
          have wm1 : IntKind.i64.wrap (((T.length + 1 : Nat) : Int) - 1) = ((T.length : Nat) : Int) := by rw [wrap64 (by omega) (by omega)]; omega
          have g1 : (rowsOf Nd.cells (y :: T).reverse)[T.length]? = some (y.cells.map .iv) := by rw [rowsOf_get]; simp
          have hset : ∀ r : List AV, (rowsOf Nd.cells (y :: T).reverse).set T.length r = rowsOf Nd.cells T.reverse ++ [r] := by
            intro r
            rw [List.reverse_cons, rowsOf, List.map_append, List.set_append_right _ _ (by simp)]
            simp [rowsOf]
          cases y with
          | mk ky cy ay by_ zy my ksy =>
          simp only [Nd.cells, ndRows_eq, List.map_cons, List.map_nil] at g1
          simp -implicitDefEqProofs only [ev, ↓reduceIte, Nat.reduceAdd, Nat.reduceEqDiff, Nat.reduceLeDiff, reduceCtorEq, List.length_cons]
          refine .mk (fun a1 => ?_) (fun a1 => ?_)
          · simp -implicitDefEqProofs only [ev, ↓reduceIte, Nat.reduceAdd, Nat.reduceEqDiff, Nat.reduceLeDiff, reduceCtorEq]
            refine .mk (fun m2 => ?_) (fun m2 => ?_)
            · cases T with
              | nil => simp at m2
              | cons w t =>
                have wm2 : IntKind.i64.wrap (((t.length + 1 + 1 : Nat) : Int) - 2) = (t.length : Int) := by
                  simp only [List.length_cons] at hTl
                  rw [wrap64 (by omega) (by omega)]; omega
                have g2 : (rowsOf Nd.cells (Nd.mk ky cy ay by_ zy my ksy :: w :: t).reverse)[t.length]? = some (w.cells.map .iv) := by rw [rowsOf_get]; simp
                have htk : (rowsOf Nd.cells (Nd.mk ky cy ay by_ zy my ksy :: w :: t).reverse).take t.length = rowsOf Nd.cells t.reverse := by
                  rw [List.reverse_cons, List.reverse_cons, List.append_assoc, rowsOf, List.map_append]
                  exact List.take_left' (by simp)
                have hst : stepN plain (Nd.mk ky cy ay by_ zy my ksy :: w :: t, g) d = (altOf [w, Nd.mk ky cy ay by_ zy my ksy] :: t, g) := by
                  simp [stepN, a1]
                rw [hst] at hF
                cases w with
                | mk kw cw aw bw zw mw ksw =>
                simp only [Nd.cells, ndRows_eq, List.map_cons, List.map_nil, List.length_cons] at g1 g2 wm1 m2 hTl
                simp -implicitDefEqProofs only [ev, ↓reduceIte, Nat.reduceAdd, Nat.reduceEqDiff, Nat.reduceLeDiff, reduceCtorEq, List.length_cons, m2, wm2, wm1, g1, g2, Nat.zero_add, Nat.sub_zero, Int.natCast_nonneg, htk]
                rw [wrap64 (n := (i : Int) + 1) (by omega) (by omega)]
                refine ⟨⟨by omega, by omega⟩, by omega, by omega, ⟨by omega, by omega⟩, (i + 1, (altOf [Nd.mk kw cw aw bw zw mw ksw, Nd.mk ky cy ay by_ zy my ksy] :: t, g), v + 1), ⟨by simp only; omega, by simp only; omega, by simp only [List.length_cons]; omega, hg0, hg8, hF⟩, by simp only; omega, ?_⟩
                refine wk_keepc (by simp) (by simp) (bsc_stack rfl rfl ?_) ?_ ?_
                · rw [cells_mk, cells_mk]
                  exact cvl_node _ _ _ _ _ [_, _]
                · exact ⟨by simp [Blk.lows, rowZ], rowsOf_low _ _, trivial⟩
                · simp only [wk, ↓reduceIte, Nat.reduceEqDiff, reduceCtorEq, Nat.reduceLT]
                  simp
            · have m1' : T = [] := by
                cases T with
                | nil => rfl
                | cons w t => simp at m2; omega
              simp -implicitDefEqProofs only [ev, ↓reduceIte, Nat.reduceAdd, Nat.reduceEqDiff, Nat.reduceLeDiff, reduceCtorEq]
              refine .mk (fun a2 => ?_) (fun a2 => ?_)
              · simp -implicitDefEqProofs only [ev, ↓reduceIte, Nat.reduceAdd, Nat.reduceEqDiff, Nat.reduceLeDiff, reduceCtorEq]
                refine .mk (fun m2 => ?_) (fun m2 => ?_)
                · rw [m1'] at m2
                  exact absurd m2 (by decide)
                · simp -implicitDefEqProofs only [ev, ↓reduceIte, Nat.reduceAdd, Nat.reduceEqDiff, Nat.reduceLeDiff, reduceCtorEq]
                  refine .mk (fun a3 => ?_) (fun a3 => ?_)
                  · have hst : stepN plain (Nd.mk ky cy ay by_ zy my ksy :: T, g) d = (repeatN d (Nd.mk ky cy ay by_ zy my ksy) plain :: T, g) := by
                      simp [stepN, a1, m1', a2, a3]
                    rw [hst] at hF
                    have hrep := f25_ok d hb0 (Nd.mk ky cy ay by_ zy my ksy) plain
                    simp only [Nd.cells, ndRows_eq, List.map_cons, List.map_nil] at hrep
                    simp -implicitDefEqProofs only [ev, ↓reduceIte, Nat.reduceAdd, Nat.reduceEqDiff, Nat.reduceLeDiff, reduceCtorEq, n1, List.length_cons, wm1, g1, Nat.zero_add, Int.natCast_nonneg]
                    refine ⟨by omega, acall_ret hrep ?_⟩
                    generalize repeatN d (Nd.mk ky cy ay by_ zy my ksy) plain = q at hF
                    cases q with
                    | mk kq cq aq bq zq mq ksq =>
                    simp only [encN, Nd.cells, ndRows_eq, List.map_cons, List.map_nil]
                    have hcl : ((rowsOf Nd.cells (Nd.mk ky cy ay by_ zy my ksy :: T).reverse)[T.length]?).isSome = true := by rw [g1]; rfl
                    simp -implicitDefEqProofs only [ev, ↓reduceIte, Nat.reduceAdd, Nat.reduceEqDiff, Nat.reduceLeDiff, reduceCtorEq, wm1, g1, hset, Nat.zero_add, Int.natCast_nonneg]
                    rw [wrap64 (n := (i : Int) + 1) (by omega) (by omega)]
                    refine ⟨by omega, (i + 1, (Nd.mk kq cq aq bq zq mq ksq :: T, g), v), ⟨by simp only; omega, by simp only; omega, by simp only [List.length_cons]; omega, hg0, hg8, hF⟩, by simp only; omega, ?_⟩
                    refine wk_keepc (by simp) (by simp) (bsc_stack rfl rfl ?_) ?_ ?_
                    · rw [← ndRows_eq]
                      exact cvl_enc (Nd.mk kq cq aq bq zq mq ksq)
                    · exact ⟨by simp [Blk.lows, rowZ], rowsOf_low _ _, trivial⟩
                    · simp only [wk, ↓reduceIte, Nat.reduceEqDiff, reduceCtorEq, Nat.reduceLT]
                      simp
                  · simp -implicitDefEqProofs only [ev, ↓reduceIte, Nat.reduceAdd, Nat.reduceEqDiff, Nat.reduceLeDiff, reduceCtorEq]
                    refine .mk (fun a4 => ?_) (fun a4 => ?_)
                    · simp -implicitDefEqProofs only [ev, ↓reduceIte, Nat.reduceAdd, Nat.reduceEqDiff, Nat.reduceLeDiff, reduceCtorEq, n1]
                      refine .mk (fun a5 => ?_) (fun a5 => ?_)
                      · have hst : stepN plain (Nd.mk ky cy ay by_ zy my ksy :: T, g) d = (groupN (g + 1) (Nd.mk ky cy ay by_ zy my ksy) :: T, g + 1) := by
                          simp [stepN, a1, m1', a2, a3, a4, a5]
                        rw [hst] at hF
                        have hg9 : g < 8 := of_decide_eq_true a5
                        have wg : IntKind.i64.wrap (g + 1) = g + 1 := wrap64 (by omega) (by omega)
                        simp -implicitDefEqProofs only [ev, ↓reduceIte, Nat.reduceAdd, Nat.reduceEqDiff, Nat.reduceLeDiff, reduceCtorEq, List.length_cons, wm1, g1, wg, hset, Nat.zero_add, Int.natCast_nonneg]
                        rw [wrap64 (n := (i : Int) + 1) (by omega) (by omega)]
                        refine ⟨by omega, by omega, (i + 1, (groupN (g + 1) (Nd.mk ky cy ay by_ zy my ksy) :: T, g + 1), v), ⟨by simp only; omega, by simp only; omega, by simp only [List.length_cons]; omega, by simp only; omega, by simp only; omega, hF⟩, by simp only; omega, ?_⟩
                        refine wk_keepc (by simp) (by simp) (bsc_stack rfl rfl ?_) ?_ ?_
                        · rw [cells_mk]
                          exact cvl_node _ _ _ _ _ [_]
                        · exact ⟨by simp [Blk.lows, rowZ], rowsOf_low _ _, trivial⟩
                        · simp only [wk, ↓reduceIte, Nat.reduceEqDiff, reduceCtorEq, Nat.reduceLT]
                          simp
                      · simp -implicitDefEqProofs only [ev, ↓reduceIte, Nat.reduceAdd, Nat.reduceEqDiff, Nat.reduceLeDiff, reduceCtorEq]
                        have hst : stepN plain (Nd.mk ky cy ay by_ zy my ksy :: T, g) d = (leafN d :: Nd.mk ky cy ay by_ zy my ksy :: T, g) := by
                          simp [stepN, a1, m1', a2, a3, a4, a5]
                        rw [hst] at hF
                        have htk : (rowsOf Nd.cells (Nd.mk ky cy ay by_ zy my ksy :: T).reverse).take (T.length + 1) = rowsOf Nd.cells (Nd.mk ky cy ay by_ zy my ksy :: T).reverse := List.take_of_length_le (by simp [rowsOf])
                        refine acall_ret hleaf ?_
                        generalize leafN d = q at hF
                        cases q with
                        | mk kq cq aq bq zq mq ksq =>
                        simp only [encN, Nd.cells, ndRows_eq, List.map_cons, List.map_nil]
                        simp -implicitDefEqProofs only [ev, ↓reduceIte, Nat.reduceAdd, Nat.reduceEqDiff, Nat.reduceLeDiff, reduceCtorEq, List.length_cons, htk]
                        rw [wrap64 (n := (i : Int) + 1) (by omega) (by omega)]
                        refine ⟨⟨by omega, by omega⟩, (i + 1, (Nd.mk kq cq aq bq zq mq ksq :: Nd.mk ky cy ay by_ zy my ksy :: T, g), v + 1), ⟨by simp only; omega, by simp only; omega, by simp only [List.length_cons]; omega, hg0, hg8, hF⟩, by simp only; omega, ?_⟩
                        refine wk_keepc (by simp) (by simp) (bsc_stack rfl rfl ?_) ?_ ?_
                        · rw [← ndRows_eq]
                          exact cvl_enc (Nd.mk kq cq aq bq zq mq ksq)
                        · exact ⟨by simp [Blk.lows, rowZ], rowsOf_low _ _, trivial⟩
                        · simp only [wk, ↓reduceIte, Nat.reduceEqDiff, reduceCtorEq, Nat.reduceLT]
                          simp
                    · simp -implicitDefEqProofs only [ev, ↓reduceIte, Nat.reduceAdd, Nat.reduceEqDiff, Nat.reduceLeDiff, reduceCtorEq]
                      have hst : stepN plain (Nd.mk ky cy ay by_ zy my ksy :: T, g) d = (leafN d :: Nd.mk ky cy ay by_ zy my ksy :: T, g) := by
                        simp [stepN, a1, m1', a2, a3, a4]
                      rw [hst] at hF
                      have htk : (rowsOf Nd.cells (Nd.mk ky cy ay by_ zy my ksy :: T).reverse).take (T.length + 1) = rowsOf Nd.cells (Nd.mk ky cy ay by_ zy my ksy :: T).reverse := List.take_of_length_le (by simp [rowsOf])
                      refine acall_ret hleaf ?_
                      generalize leafN d = q at hF
                      cases q with
                      | mk kq cq aq bq zq mq ksq =>
                      simp only [encN, Nd.cells, ndRows_eq, List.map_cons, List.map_nil]
                      simp -implicitDefEqProofs only [ev, ↓reduceIte, Nat.reduceAdd, Nat.reduceEqDiff, Nat.reduceLeDiff, reduceCtorEq, List.length_cons, htk]
                      rw [wrap64 (n := (i : Int) + 1) (by omega) (by omega)]
                      refine ⟨⟨by omega, by omega⟩, (i + 1, (Nd.mk kq cq aq bq zq mq ksq :: Nd.mk ky cy ay by_ zy my ksy :: T, g), v + 1), ⟨by simp only; omega, by simp only; omega, by simp only [List.length_cons]; omega, hg0, hg8, hF⟩, by simp only; omega, ?_⟩
                      refine wk_keepc (by simp) (by simp) (bsc_stack rfl rfl ?_) ?_ ?_
                      · rw [← ndRows_eq]
                        exact cvl_enc (Nd.mk kq cq aq bq zq mq ksq)
                      · exact ⟨by simp [Blk.lows, rowZ], rowsOf_low _ _, trivial⟩
                      · simp only [wk, ↓reduceIte, Nat.reduceEqDiff, reduceCtorEq, Nat.reduceLT]
                        simp
              · simp -implicitDefEqProofs only [ev, ↓reduceIte, Nat.reduceAdd, Nat.reduceEqDiff, Nat.reduceLeDiff, reduceCtorEq]
                refine .mk (fun a3 => ?_) (fun a3 => ?_)
                · have hst : stepN plain (Nd.mk ky cy ay by_ zy my ksy :: T, g) d = (repeatN d (Nd.mk ky cy ay by_ zy my ksy) plain :: T, g) := by
                    simp [stepN, a1, m1', a2, a3]
                  rw [hst] at hF
                  have hrep := f25_ok d hb0 (Nd.mk ky cy ay by_ zy my ksy) plain
                  simp only [Nd.cells, ndRows_eq, List.map_cons, List.map_nil] at hrep
                  simp -implicitDefEqProofs only [ev, ↓reduceIte, Nat.reduceAdd, Nat.reduceEqDiff, Nat.reduceLeDiff, reduceCtorEq, n1, List.length_cons, wm1, g1, Nat.zero_add, Int.natCast_nonneg]
                  refine ⟨by omega, acall_ret hrep ?_⟩
                  generalize repeatN d (Nd.mk ky cy ay by_ zy my ksy) plain = q at hF
                  cases q with
                  | mk kq cq aq bq zq mq ksq =>
                  simp only [encN, Nd.cells, ndRows_eq, List.map_cons, List.map_nil]
                  have hcl : ((rowsOf Nd.cells (Nd.mk ky cy ay by_ zy my ksy :: T).reverse)[T.length]?).isSome = true := by rw [g1]; rfl
                  simp -implicitDefEqProofs only [ev, ↓reduceIte, Nat.reduceAdd, Nat.reduceEqDiff, Nat.reduceLeDiff, reduceCtorEq, wm1, g1, hset, Nat.zero_add, Int.natCast_nonneg]
                  rw [wrap64 (n := (i : Int) + 1) (by omega) (by omega)]
                  refine ⟨by omega, (i + 1, (Nd.mk kq cq aq bq zq mq ksq :: T, g), v), ⟨by simp only; omega, by simp only; omega, by simp only [List.length_cons]; omega, hg0, hg8, hF⟩, by simp only; omega, ?_⟩
                  refine wk_keepc (by simp) (by simp) (bsc_stack rfl rfl ?_) ?_ ?_
                  · rw [← ndRows_eq]
                    exact cvl_enc (Nd.mk kq cq aq bq zq mq ksq)
                  · exact ⟨by simp [Blk.lows, rowZ], rowsOf_low _ _, trivial⟩
                  · simp only [wk, ↓reduceIte, Nat.reduceEqDiff, reduceCtorEq, Nat.reduceLT]
                    simp
                · simp -implicitDefEqProofs only [ev, ↓reduceIte, Nat.reduceAdd, Nat.reduceEqDiff, Nat.reduceLeDiff, reduceCtorEq]
                  refine .mk (fun a4 => ?_) (fun a4 => ?_)
                  · simp -implicitDefEqProofs only [ev, ↓reduceIte, Nat.reduceAdd, Nat.reduceEqDiff, Nat.reduceLeDiff, reduceCtorEq, n1]
                    refine .mk (fun a5 => ?_) (fun a5 => ?_)
                    · have hst : stepN plain (Nd.mk ky cy ay by_ zy my ksy :: T, g) d = (groupN (g + 1) (Nd.mk ky cy ay by_ zy my ksy) :: T, g + 1) := by
                        simp [stepN, a1, m1', a2, a3, a4, a5]
                      rw [hst] at hF
                      have hg9 : g < 8 := of_decide_eq_true a5
                      have wg : IntKind.i64.wrap (g + 1) = g + 1 := wrap64 (by omega) (by omega)
                      simp -implicitDefEqProofs only [ev, ↓reduceIte, Nat.reduceAdd, Nat.reduceEqDiff, Nat.reduceLeDiff, reduceCtorEq, List.length_cons, wm1, g1, wg, hset, Nat.zero_add, Int.natCast_nonneg]
                      rw [wrap64 (n := (i : Int) + 1) (by omega) (by omega)]
                      refine ⟨by omega, by omega, (i + 1, (groupN (g + 1) (Nd.mk ky cy ay by_ zy my ksy) :: T, g + 1), v), ⟨by simp only; omega, by simp only; omega, by simp only [List.length_cons]; omega, by simp only; omega, by simp only; omega, hF⟩, by simp only; omega, ?_⟩
                      refine wk_keepc (by simp) (by simp) (bsc_stack rfl rfl ?_) ?_ ?_
                      · rw [cells_mk]
                        exact cvl_node _ _ _ _ _ [_]
                      · exact ⟨by simp [Blk.lows, rowZ], rowsOf_low _ _, trivial⟩
                      · simp only [wk, ↓reduceIte, Nat.reduceEqDiff, reduceCtorEq, Nat.reduceLT]
                        simp
                    · simp -implicitDefEqProofs only [ev, ↓reduceIte, Nat.reduceAdd, Nat.reduceEqDiff, Nat.reduceLeDiff, reduceCtorEq]
                      have hst : stepN plain (Nd.mk ky cy ay by_ zy my ksy :: T, g) d = (leafN d :: Nd.mk ky cy ay by_ zy my ksy :: T, g) := by
                        simp [stepN, a1, m1', a2, a3, a4, a5]
                      rw [hst] at hF
                      have htk : (rowsOf Nd.cells (Nd.mk ky cy ay by_ zy my ksy :: T).reverse).take (T.length + 1) = rowsOf Nd.cells (Nd.mk ky cy ay by_ zy my ksy :: T).reverse := List.take_of_length_le (by simp [rowsOf])
                      refine acall_ret hleaf ?_
                      generalize leafN d = q at hF
                      cases q with
                      | mk kq cq aq bq zq mq ksq =>
                      simp only [encN, Nd.cells, ndRows_eq, List.map_cons, List.map_nil]
                      simp -implicitDefEqProofs only [ev, ↓reduceIte, Nat.reduceAdd, Nat.reduceEqDiff, Nat.reduceLeDiff, reduceCtorEq, List.length_cons, htk]
                      rw [wrap64 (n := (i : Int) + 1) (by omega) (by omega)]
                      refine ⟨⟨by omega, by omega⟩, (i + 1, (Nd.mk kq cq aq bq zq mq ksq :: Nd.mk ky cy ay by_ zy my ksy :: T, g), v + 1), ⟨by simp only; omega, by simp only; omega, by simp only [List.length_cons]; omega, hg0, hg8, hF⟩, by simp only; omega, ?_⟩
                      refine wk_keepc (by simp) (by simp) (bsc_stack rfl rfl ?_) ?_ ?_
                      · rw [← ndRows_eq]
                        exact cvl_enc (Nd.mk kq cq aq bq zq mq ksq)
                      · exact ⟨by simp [Blk.lows, rowZ], rowsOf_low _ _, trivial⟩
                      · simp only [wk, ↓reduceIte, Nat.reduceEqDiff, reduceCtorEq, Nat.reduceLT]
                        simp
                  · simp -implicitDefEqProofs only [ev, ↓reduceIte, Nat.reduceAdd, Nat.reduceEqDiff, Nat.reduceLeDiff, reduceCtorEq]
                    have hst : stepN plain (Nd.mk ky cy ay by_ zy my ksy :: T, g) d = (leafN d :: Nd.mk ky cy ay by_ zy my ksy :: T, g) := by
                      simp [stepN, a1, m1', a2, a3, a4]
                    rw [hst] at hF
                    have htk : (rowsOf Nd.cells (Nd.mk ky cy ay by_ zy my ksy :: T).reverse).take (T.length + 1) = rowsOf Nd.cells (Nd.mk ky cy ay by_ zy my ksy :: T).reverse := List.take_of_length_le (by simp [rowsOf])
                    refine acall_ret hleaf ?_
                    generalize leafN d = q at hF
                    cases q with
                    | mk kq cq aq bq zq mq ksq =>
                    simp only [encN, Nd.cells, ndRows_eq, List.map_cons, List.map_nil]
                    simp -implicitDefEqProofs only [ev, ↓reduceIte, Nat.reduceAdd, Nat.reduceEqDiff, Nat.reduceLeDiff, reduceCtorEq, List.length_cons, htk]
                    rw [wrap64 (n := (i : Int) + 1) (by omega) (by omega)]
                    refine ⟨⟨by omega, by omega⟩, (i + 1, (Nd.mk kq cq aq bq zq mq ksq :: Nd.mk ky cy ay by_ zy my ksy :: T, g), v + 1), ⟨by simp only; omega, by simp only; omega, by simp only [List.length_cons]; omega, hg0, hg8, hF⟩, by simp only; omega, ?_⟩
                    refine wk_keepc (by simp) (by simp) (bsc_stack rfl rfl ?_) ?_ ?_
                    · rw [← ndRows_eq]
                      exact cvl_enc (Nd.mk kq cq aq bq zq mq ksq)
                    · exact ⟨by simp [Blk.lows, rowZ], rowsOf_low _ _, trivial⟩
                    · simp only [wk, ↓reduceIte, Nat.reduceEqDiff, reduceCtorEq, Nat.reduceLT]
                      simp
          · simp -implicitDefEqProofs only [ev, ↓reduceIte, Nat.reduceAdd, Nat.reduceEqDiff, Nat.reduceLeDiff, reduceCtorEq]
            refine .mk (fun a2 => ?_) (fun a2 => ?_)
            · simp -implicitDefEqProofs only [ev, ↓reduceIte, Nat.reduceAdd, Nat.reduceEqDiff, Nat.reduceLeDiff, reduceCtorEq]
              refine .mk (fun m2 => ?_) (fun m2 => ?_)
              · cases T with
                | nil => simp at m2
                | cons w t =>
                  have wm2 : IntKind.i64.wrap (((t.length + 1 + 1 : Nat) : Int) - 2) = (t.length : Int) := by
                    simp only [List.length_cons] at hTl
                    rw [wrap64 (by omega) (by omega)]; omega
                  have g2 : (rowsOf Nd.cells (Nd.mk ky cy ay by_ zy my ksy :: w :: t).reverse)[t.length]? = some (w.cells.map .iv) := by rw [rowsOf_get]; simp
                  have htk : (rowsOf Nd.cells (Nd.mk ky cy ay by_ zy my ksy :: w :: t).reverse).take t.length = rowsOf Nd.cells t.reverse := by
                    rw [List.reverse_cons, List.reverse_cons, List.append_assoc, rowsOf, List.map_append]
                    exact List.take_left' (by simp)
                  have hst : stepN plain (Nd.mk ky cy ay by_ zy my ksy :: w :: t, g) d = (catOf [w, Nd.mk ky cy ay by_ zy my ksy] :: t, g) := by
                    simp [stepN, a1, a2]
                  rw [hst] at hF
                  cases w with
                  | mk kw cw aw bw zw mw ksw =>
                  simp only [Nd.cells, ndRows_eq, List.map_cons, List.map_nil, List.length_cons] at g1 g2 wm1 m2 hTl
                  simp -implicitDefEqProofs only [ev, ↓reduceIte, Nat.reduceAdd, Nat.reduceEqDiff, Nat.reduceLeDiff, reduceCtorEq, List.length_cons, m2, wm2, wm1, g1, g2, Nat.zero_add, Nat.sub_zero, Int.natCast_nonneg, htk]
                  rw [wrap64 (n := (i : Int) + 1) (by omega) (by omega)]
                  refine ⟨⟨by omega, by omega⟩, by omega, by omega, ⟨by omega, by omega⟩, (i + 1, (catOf [Nd.mk kw cw aw bw zw mw ksw, Nd.mk ky cy ay by_ zy my ksy] :: t, g), v + 1), ⟨by simp only; omega, by simp only; omega, by simp only [List.length_cons]; omega, hg0, hg8, hF⟩, by simp only; omega, ?_⟩
                  refine wk_keepc (by simp) (by simp) (bsc_stack rfl rfl ?_) ?_ ?_
                  · rw [cells_mk, cells_mk]
                    exact cvl_node _ _ _ _ _ [_, _]
                  · exact ⟨by simp [Blk.lows, rowZ], rowsOf_low _ _, trivial⟩
                  · simp only [wk, ↓reduceIte, Nat.reduceEqDiff, reduceCtorEq, Nat.reduceLT]
                    simp
              · have m2' : T = [] := by
                  cases T with
                  | nil => rfl
                  | cons w t => simp at m2; omega
                simp -implicitDefEqProofs only [ev, ↓reduceIte, Nat.reduceAdd, Nat.reduceEqDiff, Nat.reduceLeDiff, reduceCtorEq]
                refine .mk (fun a3 => ?_) (fun a3 => ?_)
                · have hst : stepN plain (Nd.mk ky cy ay by_ zy my ksy :: T, g) d = (repeatN d (Nd.mk ky cy ay by_ zy my ksy) plain :: T, g) := by
                    simp [stepN, a1, a2, m2', a3]
                  rw [hst] at hF
                  have hrep := f25_ok d hb0 (Nd.mk ky cy ay by_ zy my ksy) plain
                  simp only [Nd.cells, ndRows_eq, List.map_cons, List.map_nil] at hrep
                  simp -implicitDefEqProofs only [ev, ↓reduceIte, Nat.reduceAdd, Nat.reduceEqDiff, Nat.reduceLeDiff, reduceCtorEq, n1, List.length_cons, wm1, g1, Nat.zero_add, Int.natCast_nonneg]
                  refine ⟨by omega, acall_ret hrep ?_⟩
                  generalize repeatN d (Nd.mk ky cy ay by_ zy my ksy) plain = q at hF
                  cases q with
                  | mk kq cq aq bq zq mq ksq =>
                  simp only [encN, Nd.cells, ndRows_eq, List.map_cons, List.map_nil]
                  have hcl : ((rowsOf Nd.cells (Nd.mk ky cy ay by_ zy my ksy :: T).reverse)[T.length]?).isSome = true := by rw [g1]; rfl
                  simp -implicitDefEqProofs only [ev, ↓reduceIte, Nat.reduceAdd, Nat.reduceEqDiff, Nat.reduceLeDiff, reduceCtorEq, wm1, g1, hset, Nat.zero_add, Int.natCast_nonneg]
                  rw [wrap64 (n := (i : Int) + 1) (by omega) (by omega)]
                  refine ⟨by omega, (i + 1, (Nd.mk kq cq aq bq zq mq ksq :: T, g), v), ⟨by simp only; omega, by simp only; omega, by simp only [List.length_cons]; omega, hg0, hg8, hF⟩, by simp only; omega, ?_⟩
                  refine wk_keepc (by simp) (by simp) (bsc_stack rfl rfl ?_) ?_ ?_
                  · rw [← ndRows_eq]
                    exact cvl_enc (Nd.mk kq cq aq bq zq mq ksq)
                  · exact ⟨by simp [Blk.lows, rowZ], rowsOf_low _ _, trivial⟩
                  · simp only [wk, ↓reduceIte, Nat.reduceEqDiff, reduceCtorEq, Nat.reduceLT]
                    simp
                · simp -implicitDefEqProofs only [ev, ↓reduceIte, Nat.reduceAdd, Nat.reduceEqDiff, Nat.reduceLeDiff, reduceCtorEq]
                  refine .mk (fun a4 => ?_) (fun a4 => ?_)
                  · simp -implicitDefEqProofs only [ev, ↓reduceIte, Nat.reduceAdd, Nat.reduceEqDiff, Nat.reduceLeDiff, reduceCtorEq, n1]
                    refine .mk (fun a5 => ?_) (fun a5 => ?_)
                    · have hst : stepN plain (Nd.mk ky cy ay by_ zy my ksy :: T, g) d = (groupN (g + 1) (Nd.mk ky cy ay by_ zy my ksy) :: T, g + 1) := by
                        simp [stepN, a1, a2, m2', a3, a4, a5]
                      rw [hst] at hF
                      have hg9 : g < 8 := of_decide_eq_true a5
                      have wg : IntKind.i64.wrap (g + 1) = g + 1 := wrap64 (by omega) (by omega)
                      simp -implicitDefEqProofs only [ev, ↓reduceIte, Nat.reduceAdd, Nat.reduceEqDiff, Nat.reduceLeDiff, reduceCtorEq, List.length_cons, wm1, g1, wg, hset, Nat.zero_add, Int.natCast_nonneg]
                      rw [wrap64 (n := (i : Int) + 1) (by omega) (by omega)]
                      refine ⟨by omega, by omega, (i + 1, (groupN (g + 1) (Nd.mk ky cy ay by_ zy my ksy) :: T, g + 1), v), ⟨by simp only; omega, by simp only; omega, by simp only [List.length_cons]; omega, by simp only; omega, by simp only; omega, hF⟩, by simp only; omega, ?_⟩
                      refine wk_keepc (by simp) (by simp) (bsc_stack rfl rfl ?_) ?_ ?_
                      · rw [cells_mk]
                        exact cvl_node _ _ _ _ _ [_]
                      · exact ⟨by simp [Blk.lows, rowZ], rowsOf_low _ _, trivial⟩
                      · simp only [wk, ↓reduceIte, Nat.reduceEqDiff, reduceCtorEq, Nat.reduceLT]
                        simp
                    · simp -implicitDefEqProofs only [ev, ↓reduceIte, Nat.reduceAdd, Nat.reduceEqDiff, Nat.reduceLeDiff, reduceCtorEq]
                      have hst : stepN plain (Nd.mk ky cy ay by_ zy my ksy :: T, g) d = (leafN d :: Nd.mk ky cy ay by_ zy my ksy :: T, g) := by
                        simp [stepN, a1, a2, m2', a3, a4, a5]
                      rw [hst] at hF
                      have htk : (rowsOf Nd.cells (Nd.mk ky cy ay by_ zy my ksy :: T).reverse).take (T.length + 1) = rowsOf Nd.cells (Nd.mk ky cy ay by_ zy my ksy :: T).reverse := List.take_of_length_le (by simp [rowsOf])
                      refine acall_ret hleaf ?_
                      generalize leafN d = q at hF
                      cases q with
                      | mk kq cq aq bq zq mq ksq =>
                      simp only [encN, Nd.cells, ndRows_eq, List.map_cons, List.map_nil]
                      simp -implicitDefEqProofs only [ev, ↓reduceIte, Nat.reduceAdd, Nat.reduceEqDiff, Nat.reduceLeDiff, reduceCtorEq, List.length_cons, htk]
                      rw [wrap64 (n := (i : Int) + 1) (by omega) (by omega)]
                      refine ⟨⟨by omega, by omega⟩, (i + 1, (Nd.mk kq cq aq bq zq mq ksq :: Nd.mk ky cy ay by_ zy my ksy :: T, g), v + 1), ⟨by simp only; omega, by simp only; omega, by simp only [List.length_cons]; omega, hg0, hg8, hF⟩, by simp only; omega, ?_⟩
                      refine wk_keepc (by simp) (by simp) (bsc_stack rfl rfl ?_) ?_ ?_
                      · rw [← ndRows_eq]
                        exact cvl_enc (Nd.mk kq cq aq bq zq mq ksq)
                      · exact ⟨by simp [Blk.lows, rowZ], rowsOf_low _ _, trivial⟩
                      · simp only [wk, ↓reduceIte, Nat.reduceEqDiff, reduceCtorEq, Nat.reduceLT]
                        simp
                  · simp -implicitDefEqProofs only [ev, ↓reduceIte, Nat.reduceAdd, Nat.reduceEqDiff, Nat.reduceLeDiff, reduceCtorEq]
                    have hst : stepN plain (Nd.mk ky cy ay by_ zy my ksy :: T, g) d = (leafN d :: Nd.mk ky cy ay by_ zy my ksy :: T, g) := by
                      simp [stepN, a1, a2, m2', a3, a4]
                    rw [hst] at hF
                    have htk : (rowsOf Nd.cells (Nd.mk ky cy ay by_ zy my ksy :: T).reverse).take (T.length + 1) = rowsOf Nd.cells (Nd.mk ky cy ay by_ zy my ksy :: T).reverse := List.take_of_length_le (by simp [rowsOf])
                    refine acall_ret hleaf ?_
                    generalize leafN d = q at hF
                    cases q with
                    | mk kq cq aq bq zq mq ksq =>
                    simp only [encN, Nd.cells, ndRows_eq, List.map_cons, List.map_nil]
                    simp -implicitDefEqProofs only [ev, ↓reduceIte, Nat.reduceAdd, Nat.reduceEqDiff, Nat.reduceLeDiff, reduceCtorEq, List.length_cons, htk]
                    rw [wrap64 (n := (i : Int) + 1) (by omega) (by omega)]
                    refine ⟨⟨by omega, by omega⟩, (i + 1, (Nd.mk kq cq aq bq zq mq ksq :: Nd.mk ky cy ay by_ zy my ksy :: T, g), v + 1), ⟨by simp only; omega, by simp only; omega, by simp only [List.length_cons]; omega, hg0, hg8, hF⟩, by simp only; omega, ?_⟩
                    refine wk_keepc (by simp) (by simp) (bsc_stack rfl rfl ?_) ?_ ?_
                    · rw [← ndRows_eq]
                      exact cvl_enc (Nd.mk kq cq aq bq zq mq ksq)
                    · exact ⟨by simp [Blk.lows, rowZ], rowsOf_low _ _, trivial⟩
                    · simp only [wk, ↓reduceIte, Nat.reduceEqDiff, reduceCtorEq, Nat.reduceLT]
                      simp
            · simp -implicitDefEqProofs only [ev, ↓reduceIte, Nat.reduceAdd, Nat.reduceEqDiff, Nat.reduceLeDiff, reduceCtorEq]
              refine .mk (fun a3 => ?_) (fun a3 => ?_)
              · have hst : stepN plain (Nd.mk ky cy ay by_ zy my ksy :: T, g) d = (repeatN d (Nd.mk ky cy ay by_ zy my ksy) plain :: T, g) := by
                  simp [stepN, a1, a2, a3]
                rw [hst] at hF
                have hrep := f25_ok d hb0 (Nd.mk ky cy ay by_ zy my ksy) plain
                simp only [Nd.cells, ndRows_eq, List.map_cons, List.map_nil] at hrep
                simp -implicitDefEqProofs only [ev, ↓reduceIte, Nat.reduceAdd, Nat.reduceEqDiff, Nat.reduceLeDiff, reduceCtorEq, n1, List.length_cons, wm1, g1, Nat.zero_add, Int.natCast_nonneg]
                refine ⟨by omega, acall_ret hrep ?_⟩
                generalize repeatN d (Nd.mk ky cy ay by_ zy my ksy) plain = q at hF
                cases q with
                | mk kq cq aq bq zq mq ksq =>
                simp only [encN, Nd.cells, ndRows_eq, List.map_cons, List.map_nil]
                have hcl : ((rowsOf Nd.cells (Nd.mk ky cy ay by_ zy my ksy :: T).reverse)[T.length]?).isSome = true := by rw [g1]; rfl
                simp -implicitDefEqProofs only [ev, ↓reduceIte, Nat.reduceAdd, Nat.reduceEqDiff, Nat.reduceLeDiff, reduceCtorEq, wm1, g1, hset, Nat.zero_add, Int.natCast_nonneg]
                rw [wrap64 (n := (i : Int) + 1) (by omega) (by omega)]
                refine ⟨by omega, (i + 1, (Nd.mk kq cq aq bq zq mq ksq :: T, g), v), ⟨by simp only; omega, by simp only; omega, by simp only [List.length_cons]; omega, hg0, hg8, hF⟩, by simp only; omega, ?_⟩
                refine wk_keepc (by simp) (by simp) (bsc_stack rfl rfl ?_) ?_ ?_
                · rw [← ndRows_eq]
                  exact cvl_enc (Nd.mk kq cq aq bq zq mq ksq)
                · exact ⟨by simp [Blk.lows, rowZ], rowsOf_low _ _, trivial⟩
                · simp only [wk, ↓reduceIte, Nat.reduceEqDiff, reduceCtorEq, Nat.reduceLT]
                  simp
              · simp -implicitDefEqProofs only [ev, ↓reduceIte, Nat.reduceAdd, Nat.reduceEqDiff, Nat.reduceLeDiff, reduceCtorEq]
                refine .mk (fun a4 => ?_) (fun a4 => ?_)
                · simp -implicitDefEqProofs only [ev, ↓reduceIte, Nat.reduceAdd, Nat.reduceEqDiff, Nat.reduceLeDiff, reduceCtorEq, n1]
                  refine .mk (fun a5 => ?_) (fun a5 => ?_)
                  · have hst : stepN plain (Nd.mk ky cy ay by_ zy my ksy :: T, g) d = (groupN (g + 1) (Nd.mk ky cy ay by_ zy my ksy) :: T, g + 1) := by
                      simp [stepN, a1, a2, a3, a4, a5]
                    rw [hst] at hF
                    have hg9 : g < 8 := of_decide_eq_true a5
                    have wg : IntKind.i64.wrap (g + 1) = g + 1 := wrap64 (by omega) (by omega)
                    simp -implicitDefEqProofs only [ev, ↓reduceIte, Nat.reduceAdd, Nat.reduceEqDiff, Nat.reduceLeDiff, reduceCtorEq, List.length_cons, wm1, g1, wg, hset, Nat.zero_add, Int.natCast_nonneg]
                    rw [wrap64 (n := (i : Int) + 1) (by omega) (by omega)]
                    refine ⟨by omega, by omega, (i + 1, (groupN (g + 1) (Nd.mk ky cy ay by_ zy my ksy) :: T, g + 1), v), ⟨by simp only; omega, by simp only; omega, by simp only [List.length_cons]; omega, by simp only; omega, by simp only; omega, hF⟩, by simp only; omega, ?_⟩
                    refine wk_keepc (by simp) (by simp) (bsc_stack rfl rfl ?_) ?_ ?_
                    · rw [cells_mk]
                      exact cvl_node _ _ _ _ _ [_]
                    · exact ⟨by simp [Blk.lows, rowZ], rowsOf_low _ _, trivial⟩
                    · simp only [wk, ↓reduceIte, Nat.reduceEqDiff, reduceCtorEq, Nat.reduceLT]
                      simp
                  · simp -implicitDefEqProofs only [ev, ↓reduceIte, Nat.reduceAdd, Nat.reduceEqDiff, Nat.reduceLeDiff, reduceCtorEq]
                    have hst : stepN plain (Nd.mk ky cy ay by_ zy my ksy :: T, g) d = (leafN d :: Nd.mk ky cy ay by_ zy my ksy :: T, g) := by
                      simp [stepN, a1, a2, a3, a4, a5]
                    rw [hst] at hF
                    have htk : (rowsOf Nd.cells (Nd.mk ky cy ay by_ zy my ksy :: T).reverse).take (T.length + 1) = rowsOf Nd.cells (Nd.mk ky cy ay by_ zy my ksy :: T).reverse := List.take_of_length_le (by simp [rowsOf])
                    refine acall_ret hleaf ?_
                    generalize leafN d = q at hF
                    cases q with
                    | mk kq cq aq bq zq mq ksq =>
                    simp only [encN, Nd.cells, ndRows_eq, List.map_cons, List.map_nil]
                    simp -implicitDefEqProofs only [ev, ↓reduceIte, Nat.reduceAdd, Nat.reduceEqDiff, Nat.reduceLeDiff, reduceCtorEq, List.length_cons, htk]
                    rw [wrap64 (n := (i : Int) + 1) (by omega) (by omega)]
                    refine ⟨⟨by omega, by omega⟩, (i + 1, (Nd.mk kq cq aq bq zq mq ksq :: Nd.mk ky cy ay by_ zy my ksy :: T, g), v + 1), ⟨by simp only; omega, by simp only; omega, by simp only [List.length_cons]; omega, hg0, hg8, hF⟩, by simp only; omega, ?_⟩
                    refine wk_keepc (by simp) (by simp) (bsc_stack rfl rfl ?_) ?_ ?_
                    · rw [← ndRows_eq]
                      exact cvl_enc (Nd.mk kq cq aq bq zq mq ksq)
                    · exact ⟨by simp [Blk.lows, rowZ], rowsOf_low _ _, trivial⟩
                    · simp only [wk, ↓reduceIte, Nat.reduceEqDiff, reduceCtorEq, Nat.reduceLT]
                      simp
                · simp -implicitDefEqProofs only [ev, ↓reduceIte, Nat.reduceAdd, Nat.reduceEqDiff, Nat.reduceLeDiff, reduceCtorEq]
                  have hst : stepN plain (Nd.mk ky cy ay by_ zy my ksy :: T, g) d = (leafN d :: Nd.mk ky cy ay by_ zy my ksy :: T, g) := by
                    simp [stepN, a1, a2, a3, a4]
                  rw [hst] at hF
                  have htk : (rowsOf Nd.cells (Nd.mk ky cy ay by_ zy my ksy :: T).reverse).take (T.length + 1) = rowsOf Nd.cells (Nd.mk ky cy ay by_ zy my ksy :: T).reverse := List.take_of_length_le (by simp [rowsOf])
                  refine acall_ret hleaf ?_
                  generalize leafN d = q at hF
                  cases q with
                  | mk kq cq aq bq zq mq ksq =>
                  simp only [encN, Nd.cells, ndRows_eq, List.map_cons, List.map_nil]
                  simp -implicitDefEqProofs only [ev, ↓reduceIte, Nat.reduceAdd, Nat.reduceEqDiff, Nat.reduceLeDiff, reduceCtorEq, List.length_cons, htk]
                  rw [wrap64 (n := (i : Int) + 1) (by omega) (by omega)]
                  refine ⟨⟨by omega, by omega⟩, (i + 1, (Nd.mk kq cq aq bq zq mq ksq :: Nd.mk ky cy ay by_ zy my ksy :: T, g), v + 1), ⟨by simp only; omega, by simp only; omega, by simp only [List.length_cons]; omega, hg0, hg8, hF⟩, by simp only; omega, ?_⟩
                  refine wk_keepc (by simp) (by simp) (bsc_stack rfl rfl ?_) ?_ ?_
                  · rw [← ndRows_eq]
                    exact cvl_enc (Nd.mk kq cq aq bq zq mq ksq)
                  · exact ⟨by simp [Blk.lows, rowZ], rowsOf_low _ _, trivial⟩
                  · simp only [wk, ↓reduceIte, Nat.reduceEqDiff, reduceCtorEq, Nat.reduceLT]
                    simp
      · have hE := endl (by have := of_decide_eq_false h2; omega)
        simp -implicitDefEqProofs only [ev, ↓reduceIte, Nat.reduceAdd, Nat.reduceEqDiff, Nat.reduceLeDiff, reduceCtorEq]
        refine .mk fun g5 => ?_
        rcases r with _ | ⟨y, T⟩
        · have h00 : ((0 : Int) == 0) = true := rfl
          simp -implicitDefEqProofs only [ev, ↓reduceIte, Nat.reduceAdd, Nat.reduceEqDiff, Nat.reduceLeDiff, reduceCtorEq, List.length_nil, Int.natCast_zero, h00, rowZ]
          refine fin_node ?_
          exact ⟨by rw [← hE]; rfl, rfl⟩
        · have hTl : T.length + 1 ≤ i := by simpa using hrl
          have wm1 : IntKind.i64.wrap (((T.length + 1 : Nat) : Int) - 1) = ((T.length : Nat) : Int) := by rw [wrap64 (by omega) (by omega)]; omega
          have g1 : (rowsOf Nd.cells (y :: T).reverse)[T.length]? = some (y.cells.map .iv) := by rw [rowsOf_get]; simp
          have hne : (((T.length + 1 : Nat) : Int) == 0) = false := by simp; omega
          obtain rfl : y = R := hE
          cases y with
          | mk ky cy ay by_ zy my ksy =>
          simp only [Nd.cells, ndRows_eq, List.map_cons, List.map_nil] at g1
          simp -implicitDefEqProofs only [ev, ↓reduceIte, Nat.reduceAdd, Nat.reduceEqDiff, Nat.reduceLeDiff, reduceCtorEq, List.length_cons, hne]
          refine .mk fun g6 => ?_
          simp -implicitDefEqProofs only [ev, ↓reduceIte, Nat.reduceAdd, Nat.reduceEqDiff, Nat.reduceLeDiff, reduceCtorEq, wm1, g1, Nat.zero_add, Int.natCast_nonneg, rowZ]
          refine ⟨by omega, ?_⟩
          rw [← ndRows_eq]
          refine fin_same (encN_low (.mk ky cy ay by_ zy my ksy)) ?_
          exact ⟨rfl, rfl⟩
    · have hE := endl (by have := of_decide_eq_false h; omega)
      simp -implicitDefEqProofs only [ev, ↓reduceIte, Nat.reduceAdd, Nat.reduceEqDiff, Nat.reduceLeDiff, reduceCtorEq]
      refine .mk fun g5 => ?_
      rcases r with _ | ⟨y, T⟩
      · have h00 : ((0 : Int) == 0) = true := rfl
        simp -implicitDefEqProofs only [ev, ↓reduceIte, Nat.reduceAdd, Nat.reduceEqDiff, Nat.reduceLeDiff, reduceCtorEq, List.length_nil, Int.natCast_zero, h00, rowZ]
        refine fin_node ?_
        exact ⟨by rw [← hE]; rfl, rfl⟩
      · have hTl : T.length + 1 ≤ i := by simpa using hrl
        have wm1 : IntKind.i64.wrap (((T.length + 1 : Nat) : Int) - 1) = ((T.length : Nat) : Int) := by rw [wrap64 (by omega) (by omega)]; omega
        have g1 : (rowsOf Nd.cells (y :: T).reverse)[T.length]? = some (y.cells.map .iv) := by rw [rowsOf_get]; simp
        have hne : (((T.length + 1 : Nat) : Int) == 0) = false := by simp; omega
        obtain rfl : y = R := hE
        cases y with
        | mk ky cy ay by_ zy my ksy =>
        simp only [Nd.cells, ndRows_eq, List.map_cons, List.map_nil] at g1
        simp -implicitDefEqProofs only [ev, ↓reduceIte, Nat.reduceAdd, Nat.reduceEqDiff, Nat.reduceLeDiff, reduceCtorEq, List.length_cons, hne]
        refine .mk fun g6 => ?_
        simp -implicitDefEqProofs only [ev, ↓reduceIte, Nat.reduceAdd, Nat.reduceEqDiff, Nat.reduceLeDiff, reduceCtorEq, wm1, g1, Nat.zero_add, Int.natCast_nonneg, rowZ]
        refine ⟨by omega, ?_⟩
        rw [← ndRows_eq]
        refine fin_same (encN_low (.mk ky cy ay by_ zy my ksy)) ?_
        exact ⟨rfl, rfl⟩
end Go.Av

