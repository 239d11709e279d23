/-
  The document's Put: its walk; no condition.
-/
import Derived.Test.YtoomnhcglmnajaaGreatDoorAvThree
import Derived.Test.YtoomnhcglmnajaaGreatDoorAvTreeW
import Derived.KernelRfl
import Derived.Test.YtoomnhcglmnajaaGreatDoorProg
set_option linter.unusedVariables false
set_option linter.unusedSimpArgs false
namespace Go.Av
open Go.RowKit Go.Proofs.Tryz

def imm82 : Nat → Bool := fun t => ([8] : List Nat).contains t
def r82 : RF := ⟨9, [(.tmp 4)], (.seq (.reg [oo 4 (.mov (.c (Value.slice none 0 0)))]) (.seq (.reg [om 5 0, om 6 1, oo 7 (.build [(.int .i32 (0)), (.int .i32 (0))] [(0, (1, (.t 5))), (1, (1, (.t 6)))]), oo 8 (.bslice true 2 [(.t 7)]), om 4 8]) .ret))⟩
theorem r82_ok : rsvF prog 82 imm82 = some r82 := by kernel_rfl

def imm114 : Nat → Bool := fun t => ([27, 68] : List Nat).contains t
def r114_l0 : RC := (.seq (.seq (.dreg [(om 7 6, true), (om 8 0, true), (oo 9 (.len (.t 8)), true), (oo 10 (.bin .lss (.t 7) (.t 9)), true), (om 11 10, true), (og 12 (.mov (.t 0)) 11 true, true), (og 13 (.mov (.t 6)) 11 true, true), (og 14 (.iaddr 2 (.t 12) (.t 13)) 11 true, true), (og 15 (.faddr 1 (.t 14)) 11 true, true), (og 16 (.load false 1 (.t 15)) 11 true, true), (og 17 (.bin .add (.t 16) (.c (.int .i32 (1)))) 11 true, true), (og 18 (.faddr 0 (.t 3)) 11 true, true), (og 19 (.load false 1 (.t 18)) 11 true, true), (og 20 (.bin .lss (.t 17) (.t 19)) 11 true, true), (oo 21 (.pick (.t 11) (.t 20) (.c (.bool false))), true)]) (.cond (.t 21) .skip (.exit 0))) (.block 1 (.seq (.reg [om 22 5, om 23 0, om 24 6, oo 25 (.iaddr 2 (.t 23) (.t 24)), oo 26 (.load true 2 (.t 25)), oo 27 (.bslice true 2 [(.t 26)]), oo 28 (.append 2 8 [(.int .i32 (0)), (.int .i32 (0))] (.t 22) (.t 27)), om 5 28]) (.reg [om 29 6, oo 30 (.bin .add (.t 29) (ci 1)), om 6 30]))))
def r114_l1 : RC := (.seq (.seq (.dreg [(om 31 6, true), (om 32 0, true), (oo 33 (.len (.t 32)), true), (oo 34 (.bin .lss (.t 31) (.t 33)), true), (om 35 34, true), (og 36 (.mov (.t 0)) 35 true, true), (og 37 (.mov (.t 6)) 35 true, true), (og 38 (.iaddr 2 (.t 36) (.t 37)) 35 true, true), (og 39 (.faddr 0 (.t 38)) 35 true, true), (og 40 (.load false 1 (.t 39)) 35 true, true), (og 41 (.faddr 1 (.t 3)) 35 true, true), (og 42 (.load false 1 (.t 41)) 35 true, true), (og 43 (.bin .add (.t 42) (.c (.int .i32 (1)))) 35 true, true), (og 44 (.bin .leq (.t 40) (.t 43)) 35 true, true), (oo 45 (.pick (.t 35) (.t 44) (.c (.bool false))), true)]) (.cond (.t 45) .skip (.exit 2))) (.block 3 (.seq (.dreg [(oh 46 0 3, true), (ol 47 46, true), (om 48 0, true), (om 49 6, true), (oo 50 (.iaddr 2 (.t 48) (.t 49)), true), (oh 51 0 50, true), (ol 52 51, true), (oo 53 (.min (.t 47) (.t 52)), true), (oh 54 0 3, true), (on (.store 1 (.t 54) (.t 53)), true)]) (.seq (.dreg [(oh 55 1 3, true), (ol 56 55, true), (om 57 0, true), (om 58 6, true), (oo 59 (.iaddr 2 (.t 57) (.t 58)), true), (oh 60 1 59, true), (ol 61 60, true), (oo 62 (.max (.t 56) (.t 61)), true), (oh 63 1 3, true), (on (.store 1 (.t 63) (.t 62)), true)]) (.reg [om 64 6, oo 65 (.bin .add (.t 64) (ci 1)), om 6 65])))))
def r114 : RF := ⟨75, [(.tmp 4)], (.seq (.reg [oo 3 (.box false 2 (.t 1)), oo 4 (.mov (.c (Value.slice none 0 0)))]) (.seq (.reg [oo 5 (.mov (.c (Value.slice none 0 0)))]) (.seq (.reg [oo 6 (.mov (ci 0))]) (.seq (.block 0 (.loop r114_l0)) (.seq (.block 2 (.loop r114_l1)) (.seq (.reg [om 66 5, oo 67 (.load true 2 (.t 3)), oo 68 (.bslice true 2 [(.t 67)]), oo 69 (.append 2 8 [(.int .i32 (0)), (.int .i32 (0))] (.t 66) (.t 68)), om 5 69]) (.seq (.reg [om 70 5, om 71 0, om 72 6, oo 73 (.slice 2 (.t 71) (some (.t 72)) none), oo 74 (.append 2 8 [(.int .i32 (0)), (.int .i32 (0))] (.t 70) (.t 73)), om 4 74]) .ret)))))))⟩
theorem r114_ok : rsvF prog 114 imm114 = some r114 := by kernel_rfl

def imm99 : Nat → Bool := fun t => ([15, 21] : List Nat).contains t
def r99_l0 : RC := (.seq (.seq (.reg [om 5 4, om 6 0, oo 7 (.len (.t 6)), oo 8 (.bin .lss (.t 5) (.t 7))]) (.cond (.t 8) .skip (.exit 0))) (.seq (.block 1 (.seq (.reg [om 11 0, om 12 4, oo 13 (.iaddr 2 (.t 11) (.t 12)), oo 14 (.load true 2 (.t 13)), oo 15 (.call 66 [(.t 14)])]) (.cond (.t 15) (.reg [om 16 3, om 17 0, om 18 4, oo 19 (.iaddr 2 (.t 17) (.t 18)), oo 20 (.load true 2 (.t 19)), oo 21 (.call 114 [(.t 16), (.t 20)]), om 3 21]) .skip))) (.reg [om 9 4, oo 10 (.bin .add (.t 9) (ci 1)), om 4 10])))
def r99 : RF := ⟨23, [(.tmp 2)], (.seq (.reg [oo 2 (.mov (.c (Value.slice none 0 0)))]) (.seq (.reg [oo 3 (.mov (.c (Value.slice none 0 0)))]) (.seq (.seq (.reg [oo 4 (.mov (ci 0))]) (.block 0 (.loop r99_l0))) (.seq (.reg [om 22 3, om 2 22]) .ret))))⟩
theorem r99_ok : rsvF prog 99 imm99 = some r99 := by kernel_rfl

def imm81 : Nat → Bool := fun t => ([8, 31, 44] : List Nat).contains t
def r81_l0 : RC := (.seq (.seq (.reg [om 9 6, om 10 3, oo 11 (.len (.t 10)), oo 12 (.bin .lss (.t 9) (.t 11))]) (.cond (.t 12) .skip (.exit 0))) (.seq (.block 1 (.seq (.seq (.reg [om 15 3, om 16 6, oo 17 (.iaddr 2 (.t 15) (.t 16)), oh 18 0 17, ol 19 18, om 20 5, oo 21 (.bin .gtr (.t 19) (.t 20))]) (.cond (.t 21) (.reg [om 22 4, om 23 5, om 24 3, om 25 6, oo 26 (.iaddr 2 (.t 24) (.t 25)), oh 27 0 26, ol 28 27, oo 29 (.bin .sub (.t 28) (.c (.int .i32 (1)))), oo 30 (.build [(.int .i32 (0)), (.int .i32 (0))] [(0, (1, (.t 23))), (1, (1, (.t 29)))]), oo 31 (.bslice true 2 [(.t 30)]), oo 32 (.append 2 8 [(.int .i32 (0)), (.int .i32 (0))] (.t 22) (.t 31)), om 4 32]) .skip)) (.reg [om 33 3, om 34 6, oo 35 (.iaddr 2 (.t 33) (.t 34)), oh 36 1 35, ol 37 36, oo 38 (.bin .add (.t 37) (.c (.int .i32 (1)))), om 5 38]))) (.reg [om 13 6, oo 14 (.bin .add (.t 13) (ci 1)), om 6 14])))
def r81 : RF := ⟨47, [(.tmp 2)], (.seq (.reg [oo 2 (.mov (.c (Value.slice none 0 0)))]) (.seq (.reg [om 7 0, oo 8 (.call 99 [(.t 7)]), om 3 8]) (.seq (.reg [oo 4 (.mov (.c (Value.slice none 0 0)))]) (.seq (.reg [oo 5 (.mov (.c (.int .i32 (0))))]) (.seq (.seq (.reg [oo 6 (.mov (ci 0))]) (.block 0 (.loop r81_l0))) (.seq (.seq (.reg [om 39 5, oo 40 (.bin .leq (.t 39) (.c (.int .i32 (1114111))))]) (.cond (.t 40) (.reg [om 41 4, om 42 5, oo 43 (.build [(.int .i32 (0)), (.int .i32 (0))] [(0, (1, (.t 42))), (1, (1, (.c (.int .i32 (1114111)))))]), oo 44 (.bslice true 2 [(.t 43)]), oo 45 (.append 2 8 [(.int .i32 (0)), (.int .i32 (0))] (.t 41) (.t 44)), om 4 45]) .skip)) (.seq (.reg [om 46 4, om 2 46]) .ret)))))))⟩
theorem r81_ok : rsvF prog 81 imm81 = some r81 := by kernel_rfl

def imm58 : Nat → Bool := fun t => ([1, 2] : List Nat).contains t
def r58 : RF := ⟨3, [(.tmp 0)], (.seq (.reg [oo 0 (.mov (.c (Value.slice none 0 0)))]) (.seq (.reg [oo 1 (.call 82 [(.c (.int .i32 (10))), (.c (.int .i32 (10)))]), oo 2 (.call 81 [(.t 1)]), om 0 2]) .ret))⟩
theorem r58_ok : rsvF prog 58 imm58 = some r58 := by kernel_rfl

def imm83 : Nat → Bool := fun t => ([] : List Nat).contains t
def r83 : RF := ⟨17, [(.tmp 2)], (.seq (.reg [oo 2 (.mov (.c (.bool false)))]) (.seq (.reg [om 3 0, oo 4 (.bin .geq (.t 3) (.c (.int .i32 (0)))), om 5 4, og 6 (.mov (.t 0)) 5 true, og 7 (.bin .leq (.t 6) (.c (.int .i32 (1114111)))) 5 true, oo 8 (.pick (.t 5) (.t 7) (.c (.bool false))), om 9 8, og 10 (.mov (.t 0)) 9 true, og 11 (.bin .lss (.t 10) (.c (.int .i32 (55296)))) 9 true, og 12 (.mov (.t 11)) 9 true, og 13 (.mov (.t 0)) 12 false, og 14 (.bin .gtr (.t 13) (.c (.int .i32 (57343)))) 12 false, og 15 (.pick (.t 12) (.c (.bool true)) (.t 14)) 9 true, oo 16 (.pick (.t 9) (.t 15) (.c (.bool false))), om 2 16]) .ret))⟩
theorem r83_ok : rsvF prog 83 imm83 = some r83 := by kernel_rfl

def imm60 : Nat → Bool := fun t => ([5, 14, 27, 45, 65] : List Nat).contains t
def r60 : RF := ⟨67, [(.tmp 2)], (.seq (.reg [oo 2 (.mov (.c (Value.string { data := #[] })))]) (.seq (.seq (.reg [om 4 0, oo 5 (.call 83 [(.t 4)]), oo 6 (.not (.t 5))]) (.cond (.t 6) (.reg [oo 0 (.mov (.c (.int .i32 (65533))))]) .skip)) (.seq (.reg [om 7 0, oo 8 (.iconv .u32 (.t 7)), om 3 8]) (.seq (.block 0 (.seq (.reg [om 10 3, oo 11 (.bin .lss (.t 10) (.c (.int .u32 (128)))), om 9 11]) (.cond (.t 9) (.seq (.reg [om 12 3, oo 13 (.iconv .u8 (.t 12)), oo 14 (.bslice true 1 [(.t 13)]), oo 15 (.b2s (.t 14)), om 2 15]) .ret) (.seq (.reg [om 17 3, oo 18 (.bin .lss (.t 17) (.c (.int .u32 (2048)))), om 16 18]) (.cond (.t 16) (.seq (.reg [om 19 3, oo 20 (.bin .quo (.t 19) (.c (.int .u32 (64)))), oo 21 (.bin .add (.c (.int .u32 (192))) (.t 20)), oo 22 (.iconv .u8 (.t 21)), om 23 3, oo 24 (.bin .rem (.t 23) (.c (.int .u32 (64)))), oo 25 (.bin .add (.c (.int .u32 (128))) (.t 24)), oo 26 (.iconv .u8 (.t 25)), oo 27 (.bslice true 1 [(.t 22), (.t 26)]), oo 28 (.b2s (.t 27)), om 2 28]) .ret) (.seq (.reg [om 30 3, oo 31 (.bin .lss (.t 30) (.c (.int .u32 (65536)))), om 29 31]) (.cond (.t 29) (.seq (.reg [om 32 3, oo 33 (.bin .quo (.t 32) (.c (.int .u32 (4096)))), oo 34 (.bin .add (.c (.int .u32 (224))) (.t 33)), oo 35 (.iconv .u8 (.t 34)), om 36 3, oo 37 (.bin .quo (.t 36) (.c (.int .u32 (64)))), oo 38 (.bin .rem (.t 37) (.c (.int .u32 (64)))), oo 39 (.bin .add (.c (.int .u32 (128))) (.t 38)), oo 40 (.iconv .u8 (.t 39)), om 41 3, oo 42 (.bin .rem (.t 41) (.c (.int .u32 (64)))), oo 43 (.bin .add (.c (.int .u32 (128))) (.t 42)), oo 44 (.iconv .u8 (.t 43)), oo 45 (.bslice true 1 [(.t 35), (.t 40), (.t 44)]), oo 46 (.b2s (.t 45)), om 2 46]) .ret) .skip))))))) (.seq (.reg [om 47 3, oo 48 (.bin .quo (.t 47) (.c (.int .u32 (262144)))), oo 49 (.bin .add (.c (.int .u32 (240))) (.t 48)), oo 50 (.iconv .u8 (.t 49)), om 51 3, oo 52 (.bin .quo (.t 51) (.c (.int .u32 (4096)))), oo 53 (.bin .rem (.t 52) (.c (.int .u32 (64)))), oo 54 (.bin .add (.c (.int .u32 (128))) (.t 53)), oo 55 (.iconv .u8 (.t 54)), om 56 3, oo 57 (.bin .quo (.t 56) (.c (.int .u32 (64)))), oo 58 (.bin .rem (.t 57) (.c (.int .u32 (64)))), oo 59 (.bin .add (.c (.int .u32 (128))) (.t 58)), oo 60 (.iconv .u8 (.t 59)), om 61 3, oo 62 (.bin .rem (.t 61) (.c (.int .u32 (64)))), oo 63 (.bin .add (.c (.int .u32 (128))) (.t 62)), oo 64 (.iconv .u8 (.t 63)), oo 65 (.bslice true 1 [(.t 50), (.t 55), (.t 60), (.t 64)]), oo 66 (.b2s (.t 65)), om 2 66]) .ret)))))⟩
theorem r60_ok : rsvF prog 60 imm60 = some r60 := by kernel_rfl

def imm59 : Nat → Bool := fun t => ([] : List Nat).contains t
def r59_l0 : RC := (.seq (.seq (.reg [om 5 4, om 6 3, oo 7 (.slen (.t 6)), oo 8 (.bin .lss (.t 5) (.t 7))]) (.cond (.t 8) .skip (.exit 0))) (.seq (.block 1 (.seq (.reg [om 11 3, om 12 4, oo 13 (.sindex (.t 11) (.t 12)), oo 14 (.iconv .i32 (.t 13)), om 15 0, oo 16 (.bin .eql (.t 14) (.t 15))]) (.cond (.t 16) (.seq (.reg [oo 2 (.mov (.c (.bool true)))]) .ret) .skip))) (.reg [om 9 4, oo 10 (.bin .add (.t 9) (ci 1)), om 4 10])))
def r59 : RF := ⟨17, [(.tmp 2)], (.seq (.reg [oo 2 (.mov (.c (.bool false)))]) (.seq (.reg [oo 3 (.mov (.c (Value.string { data := #[92, 46, 91, 93, 40, 41, 42, 43, 63, 123, 125, 124, 94, 36] })))]) (.seq (.seq (.reg [oo 4 (.mov (ci 0))]) (.block 0 (.loop r59_l0))) (.seq (.reg [oo 2 (.mov (.c (.bool false)))]) .ret))))⟩
theorem r59_ok : rsvF prog 59 imm59 = some r59 := by kernel_rfl

def imm62 : Nat → Bool := fun t => ([8, 19] : List Nat).contains t
def r62 : RF := ⟨21, [(.tmp 2)], (.seq (.reg [oo 2 (.mov (.c (Value.string { data := #[] })))]) (.seq (.seq (.reg [om 3 0, oo 4 (.bin .lss (.t 3) (ci 10))]) (.cond (.t 4) (.seq (.reg [om 5 0, oo 6 (.bin .add (ci 48) (.t 5)), oo 7 (.iconv .u8 (.t 6)), oo 8 (.bslice true 1 [(.t 7)]), oo 9 (.b2s (.t 8)), om 2 9]) .ret) .skip)) (.seq (.reg [om 10 0, oo 11 (.bin .quo (.t 10) (ci 10)), oo 12 (.bin .rem (.t 11) (ci 10)), oo 13 (.bin .add (ci 48) (.t 12)), oo 14 (.iconv .u8 (.t 13)), om 15 0, oo 16 (.bin .rem (.t 15) (ci 10)), oo 17 (.bin .add (ci 48) (.t 16)), oo 18 (.iconv .u8 (.t 17)), oo 19 (.bslice true 1 [(.t 14), (.t 18)]), oo 20 (.b2s (.t 19)), om 2 20]) .ret)))⟩
theorem r62_ok : rsvF prog 62 imm62 = some r62 := by kernel_rfl

def imm61 : Nat → Bool := fun t => ([18, 21] : List Nat).contains t
def r61 : RF := ⟨22, [(.tmp 2)], (.seq (.reg [oo 2 (.mov (.c (Value.string { data := #[] })))]) (.seq (.seq (.reg [om 3 0, oo 4 (.bin .eql (.t 3) (.c (.int .i32 (92)))), om 5 4, og 6 (.mov (.t 0)) 5 false, og 7 (.bin .eql (.t 6) (.c (.int .i32 (93)))) 5 false, oo 8 (.pick (.t 5) (.c (.bool true)) (.t 7)), om 9 8, og 10 (.mov (.t 0)) 9 false, og 11 (.bin .eql (.t 10) (.c (.int .i32 (45)))) 9 false, oo 12 (.pick (.t 9) (.c (.bool true)) (.t 11)), om 13 12, og 14 (.mov (.t 0)) 13 false, og 15 (.bin .eql (.t 14) (.c (.int .i32 (94)))) 13 false, oo 16 (.pick (.t 13) (.c (.bool true)) (.t 15))]) (.cond (.t 16) (.seq (.reg [om 17 0, oo 18 (.call 60 [(.t 17)]), oo 19 (.bin .add (.c (Value.string { data := #[92] })) (.t 18)), om 2 19]) .ret) .skip)) (.seq (.reg [om 20 0, oo 21 (.call 60 [(.t 20)]), om 2 21]) .ret)))⟩
theorem r61_ok : rsvF prog 61 imm61 = some r61 := by kernel_rfl

def imm36 : Nat → Bool := fun t => ([1, 6, 12] : List Nat).contains t
def r36 : RF := ⟨61, [(.tmp 2)], (.seq (.reg [oo 1 (.box true 7 (.t 0)), oo 2 (.mov (.c (Value.string { data := #[] })))]) (.seq (.reg [oh 4 2 1, ol 5 4, oo 6 (.call 62 [(.t 5)]), oo 7 (.bin .add (.c (Value.string { data := #[123] })) (.t 6)), om 3 7]) (.seq (.block 0 (.seq (.reg [oh 16 2 1, ol 17 16, oo 18 (.bin .eql (.t 17) (ci 0)), om 19 18, og 20 (.faddr 3 (.t 1)) 19 true, og 21 (.load false 1 (.t 20)) 19 true, og 22 (.bin .eql (.t 21) (ci (-1))) 19 true, oo 23 (.pick (.t 19) (.t 22) (.c (.bool false))), om 15 23]) (.cond (.t 15) (.reg [oo 3 (.mov (.c (Value.string { data := #[42] })))]) (.seq (.reg [oh 25 2 1, ol 26 25, oo 27 (.bin .eql (.t 26) (ci 1)), om 28 27, og 29 (.faddr 3 (.t 1)) 28 true, og 30 (.load false 1 (.t 29)) 28 true, og 31 (.bin .eql (.t 30) (ci (-1))) 28 true, oo 32 (.pick (.t 28) (.t 31) (.c (.bool false))), om 24 32]) (.cond (.t 24) (.reg [oo 3 (.mov (.c (Value.string { data := #[43] })))]) (.seq (.reg [oh 34 2 1, ol 35 34, oo 36 (.bin .eql (.t 35) (ci 0)), om 37 36, og 38 (.faddr 3 (.t 1)) 37 true, og 39 (.load false 1 (.t 38)) 37 true, og 40 (.bin .eql (.t 39) (ci 1)) 37 true, oo 41 (.pick (.t 37) (.t 40) (.c (.bool false))), om 33 41]) (.cond (.t 33) (.reg [oo 3 (.mov (.c (Value.string { data := #[63] })))]) (.seq (.reg [oh 43 2 1, ol 44 43, oh 45 3 1, ol 46 45, oo 47 (.bin .eql (.t 44) (.t 46)), om 42 47]) (.cond (.t 42) (.reg [om 48 3, oo 49 (.bin .add (.t 48) (.c (Value.string { data := #[125] }))), om 3 49]) (.seq (.reg [oh 51 3 1, ol 52 51, oo 53 (.bin .eql (.t 52) (ci (-1))), om 50 53]) (.cond (.t 50) (.reg [om 54 3, oo 55 (.bin .add (.t 54) (.c (Value.string { data := #[44, 125] }))), om 3 55]) (.reg [om 8 3, oo 9 (.bin .add (.t 8) (.c (Value.string { data := #[44] }))), oh 10 3 1, ol 11 10, oo 12 (.call 62 [(.t 11)]), oo 13 (.bin .add (.t 9) (.t 12)), oo 14 (.bin .add (.t 13) (.c (Value.string { data := #[125] }))), om 3 14])))))))))))) (.seq (.seq (.reg [oh 56 4 1, ol 57 56]) (.cond (.t 57) (.reg [om 58 3, oo 59 (.bin .add (.t 58) (.c (Value.string { data := #[63] }))), om 3 59]) .skip)) (.seq (.reg [om 60 3, om 2 60]) .ret)))))⟩
theorem r36_ok : rsvF prog 36 imm36 = some r36 := by kernel_rfl

def imm35 : Nat → Bool := fun t => ([6, 7, 26, 31, 37, 50, 70] : List Nat).contains t
def r35_l0 : RC := (.seq (.seq (.reg [om 38 4, om 39 0, oo 40 (.len (.t 39)), oo 41 (.bin .lss (.t 38) (.t 40))]) (.cond (.t 41) .skip (.exit 0))) (.seq (.block 1 (.seq (.reg [om 44 3, om 45 0, om 46 4, oo 47 (.iaddr 2 (.t 45) (.t 46)), oh 48 0 47, ol 49 48, oo 50 (.call 61 [(.t 49)]), oo 51 (.bin .add (.t 44) (.t 50)), om 3 51]) (.seq (.dreg [(om 52 0, true), (om 53 4, true), (oo 54 (.iaddr 2 (.t 52) (.t 53)), true), (oh 55 1 54, true), (ol 56 55, true), (om 57 0, true), (om 58 4, true), (oo 59 (.iaddr 2 (.t 57) (.t 58)), true), (oh 60 0 59, true), (ol 61 60, true), (oo 62 (.bin .neq (.t 56) (.t 61)), true)]) (.cond (.t 62) (.reg [om 63 3, oo 64 (.bin .add (.t 63) (.c (Value.string { data := #[45] }))), om 65 0, om 66 4, oo 67 (.iaddr 2 (.t 65) (.t 66)), oh 68 1 67, ol 69 68, oo 70 (.call 61 [(.t 69)]), oo 71 (.bin .add (.t 64) (.t 70)), om 3 71]) .skip)))) (.reg [om 42 4, oo 43 (.bin .add (.t 42) (ci 1)), om 4 43])))
def r35 : RF := ⟨74, [(.tmp 2)], (.seq (.reg [oo 2 (.mov (.c (Value.string { data := #[] })))]) (.seq (.seq (.reg [om 5 0, oo 6 (.call 58 []), oo 7 (.call 40 [(.t 5), (.t 6)])]) (.cond (.t 7) (.seq (.reg [oo 2 (.mov (.c (Value.string { data := #[46] })))]) .ret) .skip)) (.seq (.seq (.dreg [(om 8 0, true), (oo 9 (.len (.t 8)), true), (oo 10 (.bin .eql (.t 9) (ci 1)), true), (om 11 10, true), (og 12 (.mov (.t 0)) 11 true, true), (og 13 (.iaddr 2 (.t 12) (ci 0)) 11 true, true), (og 14 (.faddr 0 (.t 13)) 11 true, true), (og 15 (.load false 1 (.t 14)) 11 true, true), (og 16 (.mov (.t 0)) 11 true, true), (og 17 (.iaddr 2 (.t 16) (ci 0)) 11 true, true), (og 18 (.faddr 1 (.t 17)) 11 true, true), (og 19 (.load false 1 (.t 18)) 11 true, true), (og 20 (.bin .eql (.t 15) (.t 19)) 11 true, true), (oo 21 (.pick (.t 11) (.t 20) (.c (.bool false))), true)]) (.cond (.t 21) (.seq (.seq (.reg [om 22 0, oo 23 (.iaddr 2 (.t 22) (ci 0)), oh 24 0 23, ol 25 24, oo 26 (.call 59 [(.t 25)])]) (.cond (.t 26) (.seq (.reg [om 27 0, oo 28 (.iaddr 2 (.t 27) (ci 0)), oh 29 0 28, ol 30 29, oo 31 (.call 60 [(.t 30)]), oo 32 (.bin .add (.c (Value.string { data := #[92] })) (.t 31)), om 2 32]) .ret) .skip)) (.seq (.reg [om 33 0, oo 34 (.iaddr 2 (.t 33) (ci 0)), oh 35 0 34, ol 36 35, oo 37 (.call 60 [(.t 36)]), om 2 37]) .ret)) .skip)) (.seq (.reg [oo 3 (.mov (.c (Value.string { data := #[91] })))]) (.seq (.seq (.reg [oo 4 (.mov (ci 0))]) (.block 0 (.loop r35_l0))) (.seq (.reg [om 72 3, oo 73 (.bin .add (.t 72) (.c (Value.string { data := #[93] }))), om 2 73]) .ret))))))⟩
theorem r35_ok : rsvF prog 35 imm35 = some r35 := by kernel_rfl

def imm14 : Nat → Bool := fun t => ([1, 13, 35, 84] : List Nat).contains t
def r14_l0 : RC := (.seq (.seq (.reg [om 22 4, oh 23 6 1, ol 24 23, oo 25 (.len (.t 24)), oo 26 (.bin .lss (.t 22) (.t 25))]) (.cond (.t 26) .skip (.exit 1))) (.seq (.block 2 (.seq (.reg [oh 29 6 1, ol 30 29, om 31 4, oo 32 (.iaddr 7 (.t 30) (.t 31)), oo 33 (.load true 7 (.t 32)), oo 5 (.alloc zN), on (.store 7 (.t 5) (.t 33))]) (.seq (.reg [oo 34 (.load true 7 (.t 5)), oo 35 (.call 14 [(.t 34)]), om 6 35]) (.seq (.seq (.reg [oh 36 0 1, ol 37 36, oo 38 (.bin .eql (.t 37) (ci 6)), om 39 38, og 40 (.faddr 0 (.t 5)) 39 true, og 41 (.load false 1 (.t 40)) 39 true, og 42 (.bin .eql (.t 41) (ci 7)) 39 true, oo 43 (.pick (.t 39) (.t 42) (.c (.bool false))), om 44 43, og 45 (.faddr 0 (.t 1)) 44 false, og 46 (.load false 1 (.t 45)) 44 false, og 47 (.bin .eql (.t 46) (ci 8)) 44 false, og 48 (.mov (.t 47)) 44 false, og 49 (.faddr 0 (.t 5)) 48 true, og 50 (.load false 1 (.t 49)) 48 true, og 51 (.bin .eql (.t 50) (ci 0)) 48 true, og 52 (.mov (.t 51)) 48 true, og 53 (.faddr 0 (.t 5)) 52 false, og 54 (.load false 1 (.t 53)) 52 false, og 55 (.bin .geq (.t 54) (ci 6)) 52 false, og 56 (.mov (.t 55)) 52 false, og 57 (.faddr 0 (.t 5)) 56 true, og 58 (.load false 1 (.t 57)) 56 true, og 59 (.bin .leq (.t 58) (ci 8)) 56 true, og 60 (.pick (.t 56) (.t 59) (.c (.bool false))) 52 false, og 61 (.pick (.t 52) (.c (.bool true)) (.t 60)) 48 true, og 62 (.pick (.t 48) (.t 61) (.c (.bool false))) 44 false, oo 63 (.pick (.t 44) (.c (.bool true)) (.t 62))]) (.cond (.t 63) (.reg [om 64 6, oo 65 (.bin .add (.c (Value.string { data := #[40, 63, 58] })) (.t 64)), oo 66 (.bin .add (.t 65) (.c (Value.string { data := #[41] }))), om 6 66]) .skip)) (.seq (.seq (.reg [oh 67 0 1, ol 68 67, oo 69 (.bin .eql (.t 68) (ci 7)), om 70 69, og 71 (.mov (.t 4)) 70 true, og 72 (.bin .gtr (.t 71) (ci 0)) 70 true, oo 73 (.pick (.t 70) (.t 72) (.c (.bool false)))]) (.cond (.t 73) (.reg [om 74 6, oo 75 (.bin .add (.c (Value.string { data := #[124] })) (.t 74)), om 6 75]) .skip)) (.reg [om 76 3, om 77 6, oo 78 (.bin .add (.t 76) (.t 77)), om 3 78])))))) (.reg [om 27 4, oo 28 (.bin .add (.t 27) (ci 1)), om 4 28])))
def r14 : RF := ⟨93, [(.tmp 2)], (.seq (.reg [oo 1 (.box true 7 (.t 0)), oo 2 (.mov (.c (Value.string { data := #[] })))]) (.seq (.reg [oo 3 (.mov (.c (Value.string { data := #[] })))]) (.seq (.seq (.reg [oh 7 0 1, ol 8 7]) (.block 0 (.seq (.reg [oo 10 (.bin .eql (.t 8) (ci 1)), om 9 10]) (.cond (.t 9) (.seq (.reg [oh 11 1 1, ol 12 11, oo 13 (.call 35 [(.t 12)]), om 2 13]) .ret) (.seq (.reg [oo 15 (.bin .eql (.t 8) (ci 2)), om 14 15]) (.cond (.t 14) (.seq (.reg [oo 2 (.mov (.c (Value.string { data := #[94] })))]) .ret) (.seq (.reg [oo 17 (.bin .eql (.t 8) (ci 3)), om 16 17]) (.cond (.t 16) (.seq (.reg [oo 2 (.mov (.c (Value.string { data := #[36] })))]) .ret) (.seq (.reg [oo 19 (.bin .eql (.t 8) (ci 4)), om 18 19]) (.cond (.t 18) (.seq (.reg [oo 2 (.mov (.c (Value.string { data := #[92, 98] })))]) .ret) (.seq (.reg [oo 21 (.bin .eql (.t 8) (ci 5)), om 20 21]) (.cond (.t 20) (.seq (.reg [oo 2 (.mov (.c (Value.string { data := #[92, 66] })))]) .ret) .skip)))))))))))) (.seq (.seq (.reg [oo 4 (.mov (ci 0))]) (.block 1 (.loop r14_l0))) (.seq (.seq (.reg [oh 79 0 1, ol 80 79, oo 81 (.bin .eql (.t 80) (ci 8))]) (.cond (.t 81) (.reg [om 82 3, oo 83 (.load true 7 (.t 1)), oo 84 (.call 36 [(.t 83)]), oo 85 (.bin .add (.t 82) (.t 84)), om 3 85]) .skip)) (.seq (.seq (.reg [oh 86 0 1, ol 87 86, oo 88 (.bin .eql (.t 87) (ci 9))]) (.cond (.t 88) (.reg [om 89 3, oo 90 (.bin .add (.c (Value.string { data := #[40] })) (.t 89)), oo 91 (.bin .add (.t 90) (.c (Value.string { data := #[41] }))), om 3 91]) .skip)) (.seq (.reg [om 92 3, om 2 92]) .ret)))))))⟩
theorem r14_ok : rsvF prog 14 imm14 = some r14 := by kernel_rfl

def imm3 : Nat → Bool := fun t => ([3, 4, 14, 18, 20, 23, 24, 32, 34, 35, 45, 47, 49, 50, 55, 57, 58, 63, 65, 66, 71, 73, 74] : List Nat).contains t
def r3 : RF := ⟨77, [(.tmp 6)], (.seq (.reg [oo 3 (.box true 9 (.t 0)), oo 4 (.box true 9 (.t 1)), oo 6 (.mov (.c (.bool false)))]) (.seq (.reg [oo 14 (.call 9 []), om 7 14]) (.seq (.seq (.reg [om 15 7, oo 16 (.not (.t 15))]) (.cond (.t 16) (.seq (.reg [oo 6 (.mov (.c (.bool false)))]) .ret) .skip)) (.seq (.reg [oo 17 (.load true 9 (.t 3)), oo 18 (.call 10 [(.t 17), (.c (.bool false))]), oo 8 (.alloc zN), on (.store 7 (.t 8) (.t 18))]) (.seq (.reg [oo 19 (.load true 9 (.t 4)), oo 20 (.call 10 [(.t 19), (.c (.bool false))]), oo 9 (.alloc zN), on (.store 7 (.t 9) (.t 20))]) (.seq (.reg [om 22 2, oo 23 (.call 12 [(.t 22)]), oo 24 (.call 11 [(.t 23)]), om 21 24, oo 25 (.extract (.t 21) 0), oo 26 (.extract (.t 21) 1), oo 27 (.extract (.t 21) 2), oo 10 (.alloc zN), on (.store 7 (.t 10) (.t 25)), om 11 26, om 12 27]) (.seq (.dreg [(om 28 12, true), (oo 29 (.bin .neq (.t 28) (ci 0)), true), (om 30 29, true), (og 31 (.load true 7 (.t 10)) 30 false, true), (og 32 (.call 13 [(.t 31)]) 30 false, false), (og 33 (.load true 7 (.t 10)) 30 false, true), (og 34 (.call 15 [(.t 33)]) 30 false, false), (og 35 (.call 14 [(.t 34)]) 30 false, false), (og 36 (.bin .eql (.t 32) (.t 35)) 30 false, true), (oo 37 (.pick (.t 30) (.c (.bool true)) (.t 36)), true), (om 13 37, true)]) (.seq (.dreg [(om 38 7, true), (om 39 38, true), (og 40 (.mov (.t 13)) 39 true, true), (oo 41 (.pick (.t 39) (.t 40) (.c (.bool false))), true), (om 42 41, true), (og 43 (.load true 7 (.t 8)) 42 true, true), (og 44 (.load true 7 (.t 9)) 42 true, true), (og 45 (.call 16 [(.t 43), (.t 44)]) 42 true, false), (og 46 (.load true 7 (.t 8)) 42 true, true), (og 47 (.call 15 [(.t 46)]) 42 true, false), (og 48 (.load true 7 (.t 9)) 42 true, true), (og 49 (.call 15 [(.t 48)]) 42 true, false), (og 50 (.call 17 [(.t 47), (.t 49)]) 42 true, false), (og 51 (.binb .eql (.t 45) (.t 50)) 42 true, true), (oo 52 (.pick (.t 42) (.t 51) (.c (.bool false))), true), (om 53 52, true), (og 54 (.load true 7 (.t 8)) 53 true, true), (og 55 (.call 18 [(.t 54)]) 53 true, false), (og 56 (.load true 7 (.t 8)) 53 true, true), (og 57 (.call 15 [(.t 56)]) 53 true, false), (og 58 (.call 19 [(.t 57)]) 53 true, false), (og 59 (.binb .eql (.t 55) (.t 58)) 53 true, true), (oo 60 (.pick (.t 53) (.t 59) (.c (.bool false))), true), (om 61 60, true), (og 62 (.load true 7 (.t 8)) 61 true, true), (og 63 (.call 20 [(.t 62)]) 61 true, false), (og 64 (.load true 7 (.t 8)) 61 true, true), (og 65 (.call 15 [(.t 64)]) 61 true, false), (og 66 (.call 21 [(.t 65)]) 61 true, false), (og 67 (.bin .eql (.t 63) (.t 66)) 61 true, true), (oo 68 (.pick (.t 61) (.t 67) (.c (.bool false))), true), (om 69 68, true), (og 70 (.load true 7 (.t 8)) 69 true, true), (og 71 (.call 22 [(.t 70)]) 69 true, false), (og 72 (.load true 7 (.t 8)) 69 true, true), (og 73 (.call 15 [(.t 72)]) 69 true, false), (og 74 (.call 23 [(.t 73)]) 69 true, false), (og 75 (.bin .eql (.t 71) (.t 74)) 69 true, true), (oo 76 (.pick (.t 69) (.t 75) (.c (.bool false))), true), (om 6 76, true)]) .ret))))))))⟩
theorem r3_ok : rsvF prog 3 imm3 = some r3 := by kernel_rfl

end Go.Av

namespace Go.Av
open Go.RowKit Go.Proofs.Tryz

/-! ### the document's dot -/
def tenL : Cls := [⟨10, 10⟩]
theorem f82_ok (a b : Int) : Ret prog 82 [.one (sct (.int .i32 a)), .one (sct (.int .i32 b))] (.one (.iv (clsIV [⟨a, b⟩]))) := by
  refine .of r82_ok (by simp) (.one (by simp [clsIV])) (by simp [r82]) ?_
  simp only [oo, on, og, om, ol, oh, zN, ci, r82, initTm, Nat.reduceAdd, clsIV, List.map_cons, List.map_nil, Rg.cells]
  simp -implicitDefEqProofs only [ev, ↓reduceIte, Nat.reduceAdd, Nat.reduceEqDiff, Nat.reduceLeDiff, reduceCtorEq]
  exact fin_same (.one (by simp)) ⟨rfl, rfl⟩

theorem f114_ok : Ret prog 114 [.one (.iv (.sc (.slice none 0 0))), .agg [.iv (.sc (.int .i32 10)), .iv (.sc (.int .i32 10))]] (.one (.iv (clsIV tenL))) := by
  refine .of r114_ok (by simp) (.one (by simp [clsIV])) (by simp [r114]) ?_
  simp only [oo, on, og, om, ol, oh, zN, ci, r114, initTm, Nat.reduceAdd, clsIV, tenL, List.map_cons, List.map_nil, Rg.cells]
  simp -implicitDefEqProofs only [ev, ↓reduceIte, Nat.reduceAdd, Nat.reduceEqDiff, Nat.reduceLeDiff, reduceCtorEq, awp_loop]
  refine aloop_mk (σ := Unit) (fun _ => [(0, .one (.iv (.sc (.slice none 0 0)))), (3, .one (.ptr 0 0 0 0)), (5, .one (.iv (.sc (.slice none 0 0)))), (6, .one (sct (.int .i64 0)))])
    (fun _ => ⟨[(0, .cells 2 0 [[.iv (.sc (.int .i32 10)), .iv (.sc (.int .i32 10))]] false)], 1⟩) (fun _ => True) (fun _ => 0) () trivial (wk_keep' (by simp) (by simp) ?_ ?_ ?_) ?_
  · simp [BsEq, Bs.get]
  · simp [LowBs, Blk.lows]
  · simp only [wk, ↓reduceIte, Nat.reduceEqDiff, reduceCtorEq, Nat.reduceLT]
  intro _ _
  simp only [oo, on, og, om, ol, oh, zN, ci, r114_l0]
  have h0 : decide ((0 : Int) < ((0 : Nat) : Int)) = false := rfl
  simp -implicitDefEqProofs only [ev, ↓reduceIte, Nat.reduceAdd, Nat.reduceEqDiff, Nat.reduceLeDiff, reduceCtorEq, h0, awp_loop]
  refine aloop_mk (σ := Unit) (fun _ => [(0, .one (.iv (.sc (.slice none 0 0)))), (3, .one (.ptr 0 0 0 0)), (5, .one (.iv (.sc (.slice none 0 0)))), (6, .one (sct (.int .i64 0)))])
    (fun _ => ⟨[(0, .cells 2 0 [[.iv (.sc (.int .i32 10)), .iv (.sc (.int .i32 10))]] false)], 1⟩) (fun _ => True) (fun _ => 0) () trivial (wk_keep' (by simp) (by simp) ?_ ?_ ?_) ?_
  · simp [BsEq, Bs.get]
  · simp [LowBs, Blk.lows]
  · simp only [wk, ↓reduceIte, Nat.reduceEqDiff, reduceCtorEq, Nat.reduceLT]
  intro _ _
  simp only [oo, on, og, om, ol, oh, zN, ci, r114_l1]
  simp -implicitDefEqProofs only [ev, ↓reduceIte, Nat.reduceAdd, Nat.reduceEqDiff, Nat.reduceLeDiff, reduceCtorEq, h0]
  exact ⟨by decide, by decide, fin_own (b := 1) (f := false) (rows := [[.iv (.sc (.int .i32 10)), .iv (.sc (.int .i32 10))]]) (rs := [[.sc (.int .i32 10), .sc (.int .i32 10)]]) (by simp [Bs.get]) rfl ⟨rfl, rfl⟩⟩

theorem f99_ok : Ret prog 99 [.one (.iv (clsIV tenL))] (.one (.iv (clsIV tenL))) := by
  have hm := f66_ok ⟨10, 10⟩
  have hp := f114_ok
  simp only [clsIV, tenL, Rg.cells, List.map_cons, List.map_nil] at hm hp
  rw [show (Rg.mk 10 10).may = true from rfl] at hm
  refine .of r99_ok (by simp [clsIV]) (.one (by simp [clsIV])) (by simp [r99]) ?_
  simp only [oo, on, og, om, ol, oh, zN, ci, r99, initTm, Nat.reduceAdd, clsIV, tenL, List.map_cons, List.map_nil, Rg.cells]
  simp -implicitDefEqProofs only [ev, ↓reduceIte, Nat.reduceAdd, Nat.reduceEqDiff, Nat.reduceLeDiff, reduceCtorEq, awp_loop]
  refine aloop_mk (σ := Bool) (fun q => [(0, .one (.iv (.sl 2 [[.sc (.int .i32 10), .sc (.int .i32 10)]]))), (3, .one (.iv (if q then .sl 2 [[.sc (.int .i32 10), .sc (.int .i32 10)]] else .sc (.slice none 0 0)))), (4, .one (sct (.int .i64 (if q then 1 else 0))))])
    (fun _ => Hp.nil) (fun _ => True) (fun q => if q then 0 else 1) false trivial (wk_none ?_) ?_
  · simp only [wk, ↓reduceIte, Nat.reduceEqDiff, reduceCtorEq, Nat.reduceLT]
  intro q _
  simp only [oo, on, og, om, ol, oh, zN, ci, r99_l0]
  cases q with
  | false =>
    have h0 : decide ((0 : Int) < ((1 : Nat) : Int)) = true := rfl
    simp -implicitDefEqProofs only [ev, ↓reduceIte, Nat.reduceAdd, Nat.reduceEqDiff, Nat.reduceLeDiff, reduceCtorEq, h0, Bool.false_eq_true, if_false, Int.toNat_zero]
    refine ⟨Int.le_refl _, acall_ret hm ?_⟩
    simp -implicitDefEqProofs only [ev, ↓reduceIte, Nat.reduceAdd, Nat.reduceEqDiff, Nat.reduceLeDiff, reduceCtorEq, Int.toNat_zero]
    refine ⟨Int.le_refl _, acall_ret hp ?_⟩
    simp -implicitDefEqProofs only [ev, ↓reduceIte, Nat.reduceAdd, Nat.reduceEqDiff, Nat.reduceLeDiff, reduceCtorEq]
    refine ⟨true, by decide, wk_none ?_⟩
    rw [wrap64 (by decide) (by decide)]
    simp only [wk, ↓reduceIte, Nat.reduceEqDiff, reduceCtorEq, Nat.reduceLT]
    simp
  | true =>
    have h0 : decide ((1 : Int) < ((1 : Nat) : Int)) = false := rfl
    simp -implicitDefEqProofs only [ev, ↓reduceIte, Nat.reduceAdd, Nat.reduceEqDiff, Nat.reduceLeDiff, reduceCtorEq, h0, if_true]
    exact fin_same (.one (by simp)) ⟨rfl, rfl⟩

theorem f81_ok : Ret prog 81 [.one (.iv (clsIV tenL))] (.one (.iv (clsIV dotL))) := by
  have hp := f99_ok
  have hd : dotL = [⟨0, 9⟩, ⟨11, 1114111⟩] := by decide
  rw [hd]
  simp only [clsIV, tenL, Rg.cells, List.map_cons, List.map_nil] at hp
  refine .of r81_ok (by simp [clsIV]) (.one (by simp [clsIV])) (by simp [r81]) ?_
  simp only [oo, on, og, om, ol, oh, zN, ci, r81, initTm, Nat.reduceAdd, clsIV, tenL, List.map_cons, List.map_nil, Rg.cells]
  simp -implicitDefEqProofs only [ev, ↓reduceIte, Nat.reduceAdd, Nat.reduceEqDiff, Nat.reduceLeDiff, reduceCtorEq]
  refine acall_ret hp ?_
  simp -implicitDefEqProofs only [ev, ↓reduceIte, Nat.reduceAdd, Nat.reduceEqDiff, Nat.reduceLeDiff, reduceCtorEq, awp_loop]
  refine aloop_mk (σ := Bool) (fun q => [(3, .one (.iv (.sl 2 [[.sc (.int .i32 10), .sc (.int .i32 10)]]))), (4, .one (if q then .own 0 0 0 1 else .iv (.sc (.slice none 0 0)))), (5, .one (sct (.int .i32 (if q then 11 else 0)))), (6, .one (sct (.int .i64 (if q then 1 else 0))))])
    (fun q => if q then ⟨[(0, .cells 2 0 [[.iv (.sc (.int .i32 0)), .iv (.sc (.int .i32 9))]] false)], 1⟩ else Hp.nil) (fun _ => True) (fun q => if q then 0 else 1) false trivial (wk_none ?_) ?_
  · simp only [wk, ↓reduceIte, Nat.reduceEqDiff, reduceCtorEq, Nat.reduceLT]
  intro q _
  simp only [oo, on, og, om, ol, oh, zN, ci, r81_l0]
  cases q with
  | false =>
    have h0 : decide ((0 : Int) < ((1 : Nat) : Int)) = true := rfl
    have h1 : decide ((10 : Int) > 0) = true := rfl
    simp -implicitDefEqProofs only [ev, ↓reduceIte, Nat.reduceAdd, Nat.reduceEqDiff, Nat.reduceLeDiff, reduceCtorEq, h0, h1, Bool.false_eq_true, if_false, Int.toNat_zero]
    refine ⟨Int.le_refl _, Int.le_refl _, by decide, Int.le_refl _, true, by decide, ?_⟩
    rw [wrap64 (by decide) (by decide), wrap32 (n := (10 : Int) + 1) (by decide) (by decide), wrap32 (n := (10 : Int) - 1) (by decide) (by decide)]
    refine wk_keep' (by simp) (by simp) ?_ ?_ ?_
    · simp [BsEq, Bs.get]
    · simp [LowBs, Blk.lows]
    · simp only [wk, ↓reduceIte, Nat.reduceEqDiff, reduceCtorEq, Nat.reduceLT]
      simp
  | true =>
    have h0 : decide ((1 : Int) < ((1 : Nat) : Int)) = false := rfl
    have h1 : decide ((11 : Int) ≤ 1114111) = true := rfl
    simp -implicitDefEqProofs only [ev, ↓reduceIte, Nat.reduceAdd, Nat.reduceEqDiff, Nat.reduceLeDiff, reduceCtorEq, h0, h1, if_true]
    exact ⟨by decide, fin_own (b := 0) (f := false) (rows := [[.iv (.sc (.int .i32 0)), .iv (.sc (.int .i32 9))], [.iv (.sc (.int .i32 11)), .iv (.sc (.int .i32 1114111))]]) (rs := [[.sc (.int .i32 0), .sc (.int .i32 9)], [.sc (.int .i32 11), .sc (.int .i32 1114111)]]) (by simp [Bs.get]) rfl ⟨rfl, rfl⟩⟩

theorem f58_ok : Ret prog 58 [] (.one (.iv (clsIV dotL))) := by
  have h1 := f82_ok 10 10
  have h2 := f81_ok
  refine .of r58_ok (by simp) (.one (by simp [clsIV])) (by simp [r58]) ?_
  simp only [oo, on, og, om, ol, oh, zN, ci, r58, initTm, Nat.reduceAdd]
  simp -implicitDefEqProofs only [ev, ↓reduceIte, Nat.reduceAdd, Nat.reduceEqDiff, Nat.reduceLeDiff, reduceCtorEq]
  refine acall_ret h1 ?_
  simp -implicitDefEqProofs only [ev, ↓reduceIte, Nat.reduceAdd, Nat.reduceEqDiff, Nat.reduceLeDiff, reduceCtorEq]
  refine acall_ret h2 ?_
  simp -implicitDefEqProofs only [ev, ↓reduceIte, Nat.reduceAdd, Nat.reduceEqDiff, Nat.reduceLeDiff, reduceCtorEq]
  exact fin_same (.one (by simp [clsIV])) ⟨rfl, rfl⟩

/-! ### the document's texts -/
theorem f83_ok (r : Int) (h : okR r = true) : Ret prog 83 [.one (sct (.int .i32 r))] (.one (sct (.bool true))) := by
  rw [okR_iff] at h
  refine .of r83_ok (by simp) (.one (by simp)) (by simp [r83]) ?_
  simp only [oo, on, og, om, ol, oh, zN, ci, r83, initTm, Nat.reduceAdd]
  have h1 : decide (r ≥ 0) = true := by simp; omega
  have h2 : decide (r ≤ 1114111) = true := by simp; omega
  simp -implicitDefEqProofs only [ev, ↓reduceIte, Nat.reduceAdd, Nat.reduceEqDiff, Nat.reduceLeDiff, reduceCtorEq, h1, h2]
  refine .mk (fun h3 => ?_) (fun h3 => ?_)
  · simp -implicitDefEqProofs only [ev, ↓reduceIte, Nat.reduceAdd, Nat.reduceEqDiff, Nat.reduceLeDiff, reduceCtorEq]
    exact fin_same (.one (by simp)) ⟨rfl, rfl⟩
  · have h4 : decide (r > 57343) = true := by have := of_decide_eq_false h3; simp; omega
    simp -implicitDefEqProofs only [ev, ↓reduceIte, Nat.reduceAdd, Nat.reduceEqDiff, Nat.reduceLeDiff, reduceCtorEq, h4]
    exact fin_same (.one (by simp)) ⟨rfl, rfl⟩

theorem u8w {n : Int} (h0 : 0 ≤ n) (h : n < 256) : IntKind.u8.wrap n = n := by rw [IntKind.wrap_u8]; omega
theorem u32w {n : Int} (h0 : 0 ≤ n) (h : n < 4294967296) : IntKind.u32.wrap n = n := by rw [IntKind.wrap_u32]; omega
theorem nums_of {l : List Nat} {r : Int} (h : encL r = l.map UInt8.ofNat) : strOfNums (l.map fun n : Nat => (n : Int)) = Utf8.encode r := by
  refine ByteArray.ext (Array.ext' ?_)
  rw [show (Utf8.encode r).data.toList = encL r from rfl, h]
  simp only [strOfNums, List.map_map]
  congr 1
theorem f60_ok (r : Int) (h : okR r = true) : Ret prog 60 [.one (sct (.int .i32 r))] (.one (sct (.string (Utf8.encode r)))) := by
  have hr := f83_ok r h
  obtain ⟨c, hc, hcr, he⟩ := encL_cases h
  subst hc
  refine .of r60_ok (by simp) (.one (by simp)) (by simp [r60]) ?_
  simp only [oo, on, og, om, ol, oh, zN, ci, r60, initTm, Nat.reduceAdd]
  generalize hR : Utf8.encode (c : Int) = R
  simp -implicitDefEqProofs only [ev, ↓reduceIte, Nat.reduceAdd, Nat.reduceEqDiff, Nat.reduceLeDiff, reduceCtorEq]
  refine acall_ret hr ?_
  have w : IntKind.u32.wrap (c : Int) = c := by rw [IntKind.wrap_u32]; omega
  simp -implicitDefEqProofs only [ev, ↓reduceIte, Nat.reduceAdd, Nat.reduceEqDiff, Nat.reduceLeDiff, reduceCtorEq, w]
  have d64 : (64 : Int) ≠ 0 := by decide
  refine .mk (fun h1 => ?_) (fun h1 => ?_)
  · simp -implicitDefEqProofs only [ev, ↓reduceIte, Nat.reduceAdd, Nat.reduceEqDiff, Nat.reduceLeDiff, reduceCtorEq]
    have h1' : c < 128 := by have := of_decide_eq_true h1; omega
    rw [if_pos h1'] at he
    refine fin_same (.one (by simp)) ⟨?_, rfl⟩
    rw [← hR, ← nums_of (l := [c]) he, u8w (by omega) (by omega)]
    rfl
  · simp -implicitDefEqProofs only [ev, ↓reduceIte, Nat.reduceAdd, Nat.reduceEqDiff, Nat.reduceLeDiff, reduceCtorEq]
    have h1' : ¬ c < 128 := by have := of_decide_eq_false h1; omega
    rw [if_neg h1'] at he
    refine .mk (fun h2 => ?_) (fun h2 => ?_)
    · simp -implicitDefEqProofs only [ev, ↓reduceIte, Nat.reduceAdd, Nat.reduceEqDiff, Nat.reduceLeDiff, reduceCtorEq]
      have h2' : c < 2048 := by have := of_decide_eq_true h2; omega
      rw [if_pos h2'] at he
      refine ⟨by decide, by decide, fin_same (.one (by simp)) ⟨?_, rfl⟩⟩
      rw [← hR, ← nums_of (l := [192 + c / 64, 128 + c % 64]) he, show (c : Int).tdiv 64 = ((c / 64 : Nat) : Int) from rfl, show (c : Int).tmod 64 = ((c % 64 : Nat) : Int) from rfl]
      rw [u32w (n := ((c / 64 : Nat) : Int)) (by omega) (by omega), u32w (n := 192 + ((c / 64 : Nat) : Int)) (by omega) (by omega), u32w (n := 128 + ((c % 64 : Nat) : Int)) (by omega) (by omega), u8w (n := 192 + ((c / 64 : Nat) : Int)) (by omega) (by omega), u8w (n := 128 + ((c % 64 : Nat) : Int)) (by omega) (by omega)]
      rfl
    · simp -implicitDefEqProofs only [ev, ↓reduceIte, Nat.reduceAdd, Nat.reduceEqDiff, Nat.reduceLeDiff, reduceCtorEq]
      have h2' : ¬ c < 2048 := by have := of_decide_eq_false h2; omega
      rw [if_neg h2'] at he
      refine .mk (fun h3 => ?_) (fun h3 => ?_)
      · simp -implicitDefEqProofs only [ev, ↓reduceIte, Nat.reduceAdd, Nat.reduceEqDiff, Nat.reduceLeDiff, reduceCtorEq]
        have h3' : c < 65536 := by have := of_decide_eq_true h3; omega
        rw [if_pos h3'] at he
        refine ⟨by decide, by decide, by decide, by decide, fin_same (.one (by simp)) ⟨?_, rfl⟩⟩
        rw [← hR, ← nums_of (l := [224 + c / 4096, 128 + c / 64 % 64, 128 + c % 64]) he, show (c : Int).tdiv 64 = ((c / 64 : Nat) : Int) from rfl, show (c : Int).tdiv 4096 = ((c / 4096 : Nat) : Int) from rfl, show (c : Int).tmod 64 = ((c % 64 : Nat) : Int) from rfl]
        rw [u32w (n := ((c / 64 : Nat) : Int)) (by omega) (by omega), u32w (n := ((c / 4096 : Nat) : Int)) (by omega) (by omega), show (((c / 64 : Nat) : Int)).tmod 64 = ((c / 64 % 64 : Nat) : Int) from rfl]
        rw [u32w (n := 224 + ((c / 4096 : Nat) : Int)) (by omega) (by omega), u32w (n := 128 + ((c / 64 % 64 : Nat) : Int)) (by omega) (by omega), u32w (n := 128 + ((c % 64 : Nat) : Int)) (by omega) (by omega), u8w (n := 224 + ((c / 4096 : Nat) : Int)) (by omega) (by omega), u8w (n := 128 + ((c / 64 % 64 : Nat) : Int)) (by omega) (by omega), u8w (n := 128 + ((c % 64 : Nat) : Int)) (by omega) (by omega)]
        rfl
      · simp -implicitDefEqProofs only [ev, ↓reduceIte, Nat.reduceAdd, Nat.reduceEqDiff, Nat.reduceLeDiff, reduceCtorEq]
        have h3' : ¬ c < 65536 := by have := of_decide_eq_false h3; omega
        rw [if_neg h3'] at he
        refine ⟨by decide, by decide, by decide, by decide, by decide, by decide, fin_same (.one (by simp)) ⟨?_, rfl⟩⟩
        rw [← hR, ← nums_of (l := [240 + c / 262144, 128 + c / 4096 % 64, 128 + c / 64 % 64, 128 + c % 64]) he, show (c : Int).tdiv 64 = ((c / 64 : Nat) : Int) from rfl, show (c : Int).tdiv 4096 = ((c / 4096 : Nat) : Int) from rfl, show (c : Int).tdiv 262144 = ((c / 262144 : Nat) : Int) from rfl, show (c : Int).tmod 64 = ((c % 64 : Nat) : Int) from rfl]
        rw [u32w (n := ((c / 64 : Nat) : Int)) (by omega) (by omega), u32w (n := ((c / 4096 : Nat) : Int)) (by omega) (by omega), u32w (n := ((c / 262144 : Nat) : Int)) (by omega) (by omega), show (((c / 64 : Nat) : Int)).tmod 64 = ((c / 64 % 64 : Nat) : Int) from rfl, show (((c / 4096 : Nat) : Int)).tmod 64 = ((c / 4096 % 64 : Nat) : Int) from rfl]
        rw [u32w (n := 240 + ((c / 262144 : Nat) : Int)) (by omega) (by omega), u32w (n := 128 + ((c / 4096 % 64 : Nat) : Int)) (by omega) (by omega), u32w (n := 128 + ((c / 64 % 64 : Nat) : Int)) (by omega) (by omega), u32w (n := 128 + ((c % 64 : Nat) : Int)) (by omega) (by omega), u8w (n := 240 + ((c / 262144 : Nat) : Int)) (by omega) (by omega), u8w (n := 128 + ((c / 4096 % 64 : Nat) : Int)) (by omega) (by omega), u8w (n := 128 + ((c / 64 % 64 : Nat) : Int)) (by omega) (by omega), u8w (n := 128 + ((c % 64 : Nat) : Int)) (by omega) (by omega)]
        rfl
end Go.Av

namespace Go.Av
open Go.RowKit Go.Proofs.Tryz

def specL : List Int := [92, 46, 91, 93, 40, 41, 42, 43, 63, 123, 125, 124, 94, 36]
theorem specL_isR (r : Int) : isR r specB = specL.contains r := by
  rw [Bool.eq_iff_iff, spec_iff]
  simp [specL]
def specU : List UInt8 := [92, 46, 91, 93, 40, 41, 42, 43, 63, 123, 125, 124, 94, 36]
theorem specL_at : ∀ k : _root_.Fin 14, (⟨#[92, 46, 91, 93, 40, 41, 42, 43, 63, 123, 125, 124, 94, 36]⟩ : ByteArray)[k.val]? = some (specU.getD k.val 0) ∧ specL[k.val]? = some ((specU.getD k.val 0).toNat : Int) ∧ IntKind.i32.wrap ((specU.getD k.val 0).toNat : Int) = ((specU.getD k.val 0).toNat : Int) := by decide

theorem f59_ok (r : Int) : Ret prog 59 [.one (sct (.int .i32 r))] (.one (sct (.bool (isR r specB)))) := by
  rw [specL_isR]
  refine .of r59_ok (by simp) (.one (by simp)) (by simp [r59]) ?_
  simp only [oo, on, og, om, ol, oh, zN, ci, r59, initTm, Nat.reduceAdd]
  generalize hR : specL.contains r = R
  simp -implicitDefEqProofs only [ev, ↓reduceIte, Nat.reduceAdd, Nat.reduceEqDiff, Nat.reduceLeDiff, reduceCtorEq, awp_loop]
  refine aloop_mk (σ := Nat) (fun i => [(0, .one (sct (.int .i32 r))), (3, .one (sct (.string ⟨#[92, 46, 91, 93, 40, 41, 42, 43, 63, 123, 125, 124, 94, 36]⟩))), (4, .one (sct (.int .i64 (i : Nat))))])
    (fun _ => Hp.nil) (fun i => i ≤ 14 ∧ (specL.drop i).contains r = R) (fun i => 14 - i) 0 ⟨by simp, hR⟩ (wk_none ?_) ?_
  · simp only [wk, ↓reduceIte, Nat.reduceEqDiff, reduceCtorEq, Nat.reduceLT]
    simp
  rintro i ⟨hi, hE⟩
  simp only [oo, on, og, om, ol, oh, zN, ci, r59_l0]
  have z14 : ((⟨#[92, 46, 91, 93, 40, 41, 42, 43, 63, 123, 125, 124, 94, 36]⟩ : ByteArray).size : Int) = 14 := rfl
  simp -implicitDefEqProofs only [ev, ↓reduceIte, Nat.reduceAdd, Nat.reduceEqDiff, Nat.reduceLeDiff, reduceCtorEq, z14]
  refine .mk (fun h => ?_) (fun h => ?_)
  · have hlt : i < 14 := by have := of_decide_eq_true h; omega
    obtain ⟨q1, q2, q3⟩ := specL_at ⟨i, hlt⟩
    simp only at q1 q2 q3
    have hd : specL.drop i = ((specU.getD i 0).toNat : Int) :: specL.drop (i + 1) := by
      have hl : i < specL.length := hlt
      rw [List.drop_eq_getElem_cons hl]
      rw [List.getElem?_eq_getElem hl] at q2
      rw [Option.some.inj q2]
    generalize specU.getD i 0 = u at q1 q2 q3 hd
    rw [hd, List.contains_cons] at hE
    simp -implicitDefEqProofs only [ev, ↓reduceIte, Nat.reduceAdd, Nat.reduceEqDiff, Nat.reduceLeDiff, reduceCtorEq, z14, q1, q3, Int.natCast_nonneg]
    refine .mk (fun h3 => ?_) (fun h3 => ?_)
    · simp -implicitDefEqProofs only [ev, ↓reduceIte, Nat.reduceAdd, Nat.reduceEqDiff, Nat.reduceLeDiff, reduceCtorEq]
      have : (r == ((u.toNat : Nat) : Int)) = true := by rw [beq_iff_eq] at h3 ⊢; exact h3.symm
      rw [this, Bool.true_or] at hE
      exact fin_same (.one (by simp)) ⟨by rw [← hE], rfl⟩
    · simp -implicitDefEqProofs only [ev, ↓reduceIte, Nat.reduceAdd, Nat.reduceEqDiff, Nat.reduceLeDiff, reduceCtorEq]
      have : (r == ((u.toNat : Nat) : Int)) = false := by rw [beq_eq_false_iff_ne] at h3 ⊢; exact fun e => h3 e.symm
      rw [this, Bool.false_or] at hE
      refine ⟨i + 1, ⟨by omega, hE⟩, by omega, wk_none ?_⟩
      rw [wrap64 (by omega) (by omega)]
      simp only [wk, ↓reduceIte, Nat.reduceEqDiff, reduceCtorEq, Nat.reduceLT]
      simp
  · have hi' : i = 14 := by have := of_decide_eq_false h; omega
    subst hi'
    simp -implicitDefEqProofs only [ev, ↓reduceIte, Nat.reduceAdd, Nat.reduceEqDiff, Nat.reduceLeDiff, reduceCtorEq]
    exact fin_same (.one (by simp)) ⟨by rw [← hE]; rfl, rfl⟩

theorem f61_ok (r : Int) (h : okR r = true) : Ret prog 61 [.one (sct (.int .i32 r))] (.one (sct (.string (escB r inClsB)))) := by
  have hr := f60_ok r h
  have hz : (Utf8.encode r).size ≤ 4 := by
    have := (encL_cases h)
    obtain ⟨c, _, _, he⟩ := this
    have : (Utf8.encode r).size = (encL r).length := rfl
    rw [this, he]
    split
    · simp
    · split
      · simp
      · split <;> simp
  have e1 : (⟨#[92]⟩ : ByteArray).size = 1 := rfl
  refine .of r61_ok (by simp) (.one (by simp)) (by simp [r61]) ?_
  simp only [oo, on, og, om, ol, oh, zN, ci, r61, initTm, Nat.reduceAdd]
  have hi : isR r inClsB = (r == 92 || (r == 93 || (r == 45 || r == 94))) := by
    rw [Bool.eq_iff_iff, inCls_iff]; simp
  generalize hR : escB r inClsB = R
  have yes : isR r inClsB = true → R = ⟨#[92]⟩ ++ Utf8.encode r := fun e => by rw [← hR, escB, if_pos e]
  have no : isR r inClsB = false → R = Utf8.encode r := fun e => by rw [← hR, escB, if_neg (by rw [e]; decide)]
  generalize Utf8.encode r = E at hr hz yes no
  simp -implicitDefEqProofs only [ev, ↓reduceIte, Nat.reduceAdd, Nat.reduceEqDiff, Nat.reduceLeDiff, reduceCtorEq]
  refine .mk (fun h1 => ?_) (fun h1 => ?_)
  · simp -implicitDefEqProofs only [ev, ↓reduceIte, Nat.reduceAdd, Nat.reduceEqDiff, Nat.reduceLeDiff, reduceCtorEq, h1]
    refine acall_ret hr ?_
    simp -implicitDefEqProofs only [ev, ↓reduceIte, Nat.reduceAdd, Nat.reduceEqDiff, Nat.reduceLeDiff, reduceCtorEq]
    exact ⟨by omega, fin_same (.one (by simp)) ⟨by rw [yes (by rw [hi, h1]; rfl)], rfl⟩⟩
  · simp -implicitDefEqProofs only [ev, ↓reduceIte, Nat.reduceAdd, Nat.reduceEqDiff, Nat.reduceLeDiff, reduceCtorEq, h1]
    refine .mk (fun h2 => ?_) (fun h2 => ?_)
    · simp -implicitDefEqProofs only [ev, ↓reduceIte, Nat.reduceAdd, Nat.reduceEqDiff, Nat.reduceLeDiff, reduceCtorEq, h2]
      refine acall_ret hr ?_
      simp -implicitDefEqProofs only [ev, ↓reduceIte, Nat.reduceAdd, Nat.reduceEqDiff, Nat.reduceLeDiff, reduceCtorEq]
      exact ⟨by omega, fin_same (.one (by simp)) ⟨by rw [yes (by rw [hi, h1, h2]; rfl)], rfl⟩⟩
    · simp -implicitDefEqProofs only [ev, ↓reduceIte, Nat.reduceAdd, Nat.reduceEqDiff, Nat.reduceLeDiff, reduceCtorEq, h2]
      refine .mk (fun h3 => ?_) (fun h3 => ?_)
      · simp -implicitDefEqProofs only [ev, ↓reduceIte, Nat.reduceAdd, Nat.reduceEqDiff, Nat.reduceLeDiff, reduceCtorEq, h3]
        refine acall_ret hr ?_
        simp -implicitDefEqProofs only [ev, ↓reduceIte, Nat.reduceAdd, Nat.reduceEqDiff, Nat.reduceLeDiff, reduceCtorEq]
        exact ⟨by omega, fin_same (.one (by simp)) ⟨by rw [yes (by rw [hi, h1, h2, h3]; rfl)], rfl⟩⟩
      · simp -implicitDefEqProofs only [ev, ↓reduceIte, Nat.reduceAdd, Nat.reduceEqDiff, Nat.reduceLeDiff, reduceCtorEq, h3]
        refine .mk (fun h4 => ?_) (fun h4 => ?_)
        · simp -implicitDefEqProofs only [ev, ↓reduceIte, Nat.reduceAdd, Nat.reduceEqDiff, Nat.reduceLeDiff, reduceCtorEq, h4]
          refine acall_ret hr ?_
          simp -implicitDefEqProofs only [ev, ↓reduceIte, Nat.reduceAdd, Nat.reduceEqDiff, Nat.reduceLeDiff, reduceCtorEq]
          exact ⟨by omega, fin_same (.one (by simp)) ⟨by rw [yes (by rw [hi, h1, h2, h3, h4]; rfl)], rfl⟩⟩
        · simp -implicitDefEqProofs only [ev, ↓reduceIte, Nat.reduceAdd, Nat.reduceEqDiff, Nat.reduceLeDiff, reduceCtorEq, h4]
          refine acall_ret hr ?_
          simp -implicitDefEqProofs only [ev, ↓reduceIte, Nat.reduceAdd, Nat.reduceEqDiff, Nat.reduceLeDiff, reduceCtorEq]
          exact fin_same (.one (by simp)) ⟨by rw [no (by rw [hi, h1, h2, h3, h4]; rfl)], rfl⟩

theorem f62_ok (n : Int) (h0 : 0 ≤ n) (h : n < 100) : Ret prog 62 [.one (sct (.int .i64 n))] (.one (sct (.string (decB n)))) := by
  obtain ⟨c, rfl⟩ : ∃ c : Nat, (c : Int) = n := ⟨n.toNat, by omega⟩
  have hc : c < 100 := by omega
  refine .of r62_ok (by simp) (.one (by simp)) (by simp [r62]) ?_
  simp only [oo, on, og, om, ol, oh, zN, ci, r62, initTm, Nat.reduceAdd]
  have hall : ∀ k : _root_.Fin 100, decB (k.val : Int) = if k.val < 10 then ⟨#[UInt8.ofNat (48 + k.val)]⟩ else ⟨#[UInt8.ofNat (48 + k.val / 10 % 10), UInt8.ofNat (48 + k.val % 10)]⟩ := by decide
  have hd := hall ⟨c, hc⟩
  simp only at hd
  generalize decB (c : Int) = R at hd
  simp -implicitDefEqProofs only [ev, ↓reduceIte, Nat.reduceAdd, Nat.reduceEqDiff, Nat.reduceLeDiff, reduceCtorEq]
  refine .mk (fun h1 => ?_) (fun h1 => ?_)
  · have h1' : c < 10 := by have := of_decide_eq_true h1; omega
    rw [if_pos h1'] at hd
    simp -implicitDefEqProofs only [ev, ↓reduceIte, Nat.reduceAdd, Nat.reduceEqDiff, Nat.reduceLeDiff, reduceCtorEq]
    refine fin_same (.one (by simp)) ⟨?_, rfl⟩
    rw [hd, wrap64 (n := 48 + (c : Int)) (by omega) (by omega), u8w (by omega) (by omega)]
    rfl
  · have h1' : ¬ c < 10 := by have := of_decide_eq_false h1; omega
    rw [if_neg h1'] at hd
    simp -implicitDefEqProofs only [ev, ↓reduceIte, Nat.reduceAdd, Nat.reduceEqDiff, Nat.reduceLeDiff, reduceCtorEq]
    refine ⟨by decide, by decide, by decide, fin_same (.one (by simp)) ⟨?_, rfl⟩⟩
    rw [hd, show (c : Int).tdiv 10 = ((c / 10 : Nat) : Int) from rfl, show (c : Int).tmod 10 = ((c % 10 : Nat) : Int) from rfl, wrap64 (n := ((c / 10 : Nat) : Int)) (by omega) (by omega), show (((c / 10 : Nat) : Int)).tmod 10 = ((c / 10 % 10 : Nat) : Int) from rfl]
    rw [wrap64 (n := 48 + ((c / 10 % 10 : Nat) : Int)) (by omega) (by omega), wrap64 (n := 48 + ((c % 10 : Nat) : Int)) (by omega) (by omega), u8w (n := 48 + ((c / 10 % 10 : Nat) : Int)) (by omega) (by omega), u8w (n := 48 + ((c % 10 : Nat) : Int)) (by omega) (by omega)]
    rfl
end Go.Av

namespace Go.Av
open Go.RowKit Go.Proofs.Tryz

theorem f36_ok (k : Int) (c : Cls) (a b : Int) (z : Bool) (m : Int) (ks : List Nd) (ha0 : 0 ≤ a) (ha : a < 100) (hb1 : -1 ≤ b) (hb : b < 100) : Ret prog 36 [.agg ((Nd.mk k c a b z m ks).cells.map .iv)] (.one (sct (.string (timesB a b z)))) := by
  refine .of r36_ok (by simp [Nd.cells, clsIV]) (.one (by simp)) (by simp [r36]) ?_
  have h1 := decB_size a
  have h2 := decB_size b
  have e1 : (⟨#[42]⟩ : ByteArray).size = 1 := rfl
  have e2 : (⟨#[43]⟩ : ByteArray).size = 1 := rfl
  have e3 : (⟨#[63]⟩ : ByteArray).size = 1 := rfl
  have e4 : (⟨#[123]⟩ : ByteArray).size = 1 := rfl
  have e5 : (⟨#[125]⟩ : ByteArray).size = 1 := rfl
  have e6 : (⟨#[44]⟩ : ByteArray).size = 1 := rfl
  have e7 : (⟨#[44, 125]⟩ : ByteArray).size = 2 := rfl
  generalize hR : timesB a b z = R
  simp only [oo, on, og, om, ol, oh, zN, ci, r36, initTm, Nat.reduceAdd, Nd.cells, ndRows_eq, List.map_cons, List.map_nil]
  simp -implicitDefEqProofs only [ev, ↓reduceIte, Nat.reduceAdd, Nat.reduceEqDiff, Nat.reduceLeDiff, reduceCtorEq]
  refine acall_ret (f62_ok a ha0 ha) ?_
  simp -implicitDefEqProofs only [ev, ↓reduceIte, Nat.reduceAdd, Nat.reduceEqDiff, Nat.reduceLeDiff, reduceCtorEq]
  refine ⟨by omega, ?_⟩
  refine .mk (fun h1 => ?_) (fun h1 => ?_)
  · simp -implicitDefEqProofs only [ev, ↓reduceIte, Nat.reduceAdd, Nat.reduceEqDiff, Nat.reduceLeDiff, reduceCtorEq, h1]
    refine .mk (fun g1 => ?_) (fun g1 => ?_)
    · simp -implicitDefEqProofs only [ev, ↓reduceIte, Nat.reduceAdd, Nat.reduceEqDiff, Nat.reduceLeDiff, reduceCtorEq, g1]
      cases z with
      | true =>
        simp -implicitDefEqProofs only [ev, ↓reduceIte, Nat.reduceAdd, Nat.reduceEqDiff, Nat.reduceLeDiff, reduceCtorEq]
        refine ⟨by (try simp only [ByteArray.size_append]); omega, fin_same (.one (by simp)) ⟨?_, rfl⟩⟩
        rw [← hR]
        first | (simp [timesB, timesB0, h1, g1, ByteArray.append_assoc]; done) | (exfalso; simp only [beq_iff_eq, beq_eq_false_iff_ne, ne_eq] at *; omega)
      | false =>
        simp -implicitDefEqProofs only [ev, ↓reduceIte, Nat.reduceAdd, Nat.reduceEqDiff, Nat.reduceLeDiff, reduceCtorEq]
        refine fin_same (.one (by simp)) ⟨?_, rfl⟩
        rw [← hR]
        first | (simp [timesB, timesB0, h1, g1, ByteArray.append_assoc]; done) | (exfalso; simp only [beq_iff_eq, beq_eq_false_iff_ne, ne_eq] at *; omega)
    · simp -implicitDefEqProofs only [ev, ↓reduceIte, Nat.reduceAdd, Nat.reduceEqDiff, Nat.reduceLeDiff, reduceCtorEq, g1]
      refine .mk (fun h2 => ?_) (fun h2 => ?_)
      · simp -implicitDefEqProofs only [ev, ↓reduceIte, Nat.reduceAdd, Nat.reduceEqDiff, Nat.reduceLeDiff, reduceCtorEq, h2]
        refine .mk (fun g2 => ?_) (fun g2 => ?_)
        · simp -implicitDefEqProofs only [ev, ↓reduceIte, Nat.reduceAdd, Nat.reduceEqDiff, Nat.reduceLeDiff, reduceCtorEq, g2]
          cases z with
          | true =>
            simp -implicitDefEqProofs only [ev, ↓reduceIte, Nat.reduceAdd, Nat.reduceEqDiff, Nat.reduceLeDiff, reduceCtorEq]
            refine ⟨by (try simp only [ByteArray.size_append]); omega, fin_same (.one (by simp)) ⟨?_, rfl⟩⟩
            rw [← hR]
            first | (simp [timesB, timesB0, h1, g1, h2, g2, ByteArray.append_assoc]; done) | (exfalso; simp only [beq_iff_eq, beq_eq_false_iff_ne, ne_eq] at *; omega)
          | false =>
            simp -implicitDefEqProofs only [ev, ↓reduceIte, Nat.reduceAdd, Nat.reduceEqDiff, Nat.reduceLeDiff, reduceCtorEq]
            refine fin_same (.one (by simp)) ⟨?_, rfl⟩
            rw [← hR]
            first | (simp [timesB, timesB0, h1, g1, h2, g2, ByteArray.append_assoc]; done) | (exfalso; simp only [beq_iff_eq, beq_eq_false_iff_ne, ne_eq] at *; omega)
        · simp -implicitDefEqProofs only [ev, ↓reduceIte, Nat.reduceAdd, Nat.reduceEqDiff, Nat.reduceLeDiff, reduceCtorEq, g2]
          refine .mk (fun h3 => ?_) (fun h3 => ?_)
          · simp -implicitDefEqProofs only [ev, ↓reduceIte, Nat.reduceAdd, Nat.reduceEqDiff, Nat.reduceLeDiff, reduceCtorEq, h3]
            refine .mk (fun g3 => ?_) (fun g3 => ?_)
            · simp -implicitDefEqProofs only [ev, ↓reduceIte, Nat.reduceAdd, Nat.reduceEqDiff, Nat.reduceLeDiff, reduceCtorEq, g3]
              cases z with
              | true =>
                simp -implicitDefEqProofs only [ev, ↓reduceIte, Nat.reduceAdd, Nat.reduceEqDiff, Nat.reduceLeDiff, reduceCtorEq]
                refine ⟨by (try simp only [ByteArray.size_append]); omega, fin_same (.one (by simp)) ⟨?_, rfl⟩⟩
                rw [← hR]
                first | (simp [timesB, timesB0, h1, g1, h2, g2, h3, g3, ByteArray.append_assoc]; done) | (exfalso; simp only [beq_iff_eq, beq_eq_false_iff_ne, ne_eq] at *; omega)
              | false =>
                simp -implicitDefEqProofs only [ev, ↓reduceIte, Nat.reduceAdd, Nat.reduceEqDiff, Nat.reduceLeDiff, reduceCtorEq]
                refine fin_same (.one (by simp)) ⟨?_, rfl⟩
                rw [← hR]
                first | (simp [timesB, timesB0, h1, g1, h2, g2, h3, g3, ByteArray.append_assoc]; done) | (exfalso; simp only [beq_iff_eq, beq_eq_false_iff_ne, ne_eq] at *; omega)
            · simp -implicitDefEqProofs only [ev, ↓reduceIte, Nat.reduceAdd, Nat.reduceEqDiff, Nat.reduceLeDiff, reduceCtorEq, g3]
              refine .mk (fun h4 => ?_) (fun h4 => ?_)
              · simp -implicitDefEqProofs only [ev, ↓reduceIte, Nat.reduceAdd, Nat.reduceEqDiff, Nat.reduceLeDiff, reduceCtorEq]
                refine ⟨by (try simp only [ByteArray.size_append]); omega, ?_⟩
                cases z with
                | true =>
                  simp -implicitDefEqProofs only [ev, ↓reduceIte, Nat.reduceAdd, Nat.reduceEqDiff, Nat.reduceLeDiff, reduceCtorEq]
                  refine ⟨by (try simp only [ByteArray.size_append]); omega, fin_same (.one (by simp)) ⟨?_, rfl⟩⟩
                  rw [← hR]
                  first | (simp [timesB, timesB0, h1, g1, h2, g2, h3, g3, h4, ByteArray.append_assoc]; done) | (exfalso; simp only [beq_iff_eq, beq_eq_false_iff_ne, ne_eq] at *; omega)
                | false =>
                  simp -implicitDefEqProofs only [ev, ↓reduceIte, Nat.reduceAdd, Nat.reduceEqDiff, Nat.reduceLeDiff, reduceCtorEq]
                  refine fin_same (.one (by simp)) ⟨?_, rfl⟩
                  rw [← hR]
                  first | (simp [timesB, timesB0, h1, g1, h2, g2, h3, g3, h4, ByteArray.append_assoc]; done) | (exfalso; simp only [beq_iff_eq, beq_eq_false_iff_ne, ne_eq] at *; omega)
              · simp -implicitDefEqProofs only [ev, ↓reduceIte, Nat.reduceAdd, Nat.reduceEqDiff, Nat.reduceLeDiff, reduceCtorEq]
                refine .mk (fun h5 => ?_) (fun h5 => ?_)
                · simp -implicitDefEqProofs only [ev, ↓reduceIte, Nat.reduceAdd, Nat.reduceEqDiff, Nat.reduceLeDiff, reduceCtorEq]
                  refine ⟨by (try simp only [ByteArray.size_append]); omega, ?_⟩
                  cases z with
                  | true =>
                    simp -implicitDefEqProofs only [ev, ↓reduceIte, Nat.reduceAdd, Nat.reduceEqDiff, Nat.reduceLeDiff, reduceCtorEq]
                    refine ⟨by (try simp only [ByteArray.size_append]); omega, fin_same (.one (by simp)) ⟨?_, rfl⟩⟩
                    rw [← hR]
                    first | (simp [timesB, timesB0, h1, g1, h2, g2, h3, g3, h4, h5, ByteArray.append_assoc]; done) | (exfalso; simp only [beq_iff_eq, beq_eq_false_iff_ne, ne_eq] at *; omega)
                  | false =>
                    simp -implicitDefEqProofs only [ev, ↓reduceIte, Nat.reduceAdd, Nat.reduceEqDiff, Nat.reduceLeDiff, reduceCtorEq]
                    refine fin_same (.one (by simp)) ⟨?_, rfl⟩
                    rw [← hR]
                    first | (simp [timesB, timesB0, h1, g1, h2, g2, h3, g3, h4, h5, ByteArray.append_assoc]; done) | (exfalso; simp only [beq_iff_eq, beq_eq_false_iff_ne, ne_eq] at *; omega)
                · simp -implicitDefEqProofs only [ev, ↓reduceIte, Nat.reduceAdd, Nat.reduceEqDiff, Nat.reduceLeDiff, reduceCtorEq]
                  refine ⟨by (try simp only [ByteArray.size_append]); omega, ?_⟩
                  have hb0 : 0 ≤ b := by
                    have : ¬ b = -1 := by simpa using h5
                    omega
                  refine acall_ret (f62_ok b hb0 hb) ?_
                  simp -implicitDefEqProofs only [ev, ↓reduceIte, Nat.reduceAdd, Nat.reduceEqDiff, Nat.reduceLeDiff, reduceCtorEq]
                  refine ⟨by (try simp only [ByteArray.size_append]); omega, by (try simp only [ByteArray.size_append]); omega, ?_⟩
                  cases z with
                  | true =>
                    simp -implicitDefEqProofs only [ev, ↓reduceIte, Nat.reduceAdd, Nat.reduceEqDiff, Nat.reduceLeDiff, reduceCtorEq]
                    refine ⟨by (try simp only [ByteArray.size_append]); omega, fin_same (.one (by simp)) ⟨?_, rfl⟩⟩
                    rw [← hR]
                    first | (simp [timesB, timesB0, h1, g1, h2, g2, h3, g3, h4, h5, ByteArray.append_assoc]; done) | (exfalso; simp only [beq_iff_eq, beq_eq_false_iff_ne, ne_eq] at *; omega)
                  | false =>
                    simp -implicitDefEqProofs only [ev, ↓reduceIte, Nat.reduceAdd, Nat.reduceEqDiff, Nat.reduceLeDiff, reduceCtorEq]
                    refine fin_same (.one (by simp)) ⟨?_, rfl⟩
                    rw [← hR]
                    first | (simp [timesB, timesB0, h1, g1, h2, g2, h3, g3, h4, h5, ByteArray.append_assoc]; done) | (exfalso; simp only [beq_iff_eq, beq_eq_false_iff_ne, ne_eq] at *; omega)
          · simp -implicitDefEqProofs only [ev, ↓reduceIte, Nat.reduceAdd, Nat.reduceEqDiff, Nat.reduceLeDiff, reduceCtorEq, h3]
            refine .mk (fun h4 => ?_) (fun h4 => ?_)
            · simp -implicitDefEqProofs only [ev, ↓reduceIte, Nat.reduceAdd, Nat.reduceEqDiff, Nat.reduceLeDiff, reduceCtorEq]
              refine ⟨by (try simp only [ByteArray.size_append]); omega, ?_⟩
              cases z with
              | true =>
                simp -implicitDefEqProofs only [ev, ↓reduceIte, Nat.reduceAdd, Nat.reduceEqDiff, Nat.reduceLeDiff, reduceCtorEq]
                refine ⟨by (try simp only [ByteArray.size_append]); omega, fin_same (.one (by simp)) ⟨?_, rfl⟩⟩
                rw [← hR]
                first | (simp [timesB, timesB0, h1, g1, h2, g2, h3, h4, ByteArray.append_assoc]; done) | (exfalso; simp only [beq_iff_eq, beq_eq_false_iff_ne, ne_eq] at *; omega)
              | false =>
                simp -implicitDefEqProofs only [ev, ↓reduceIte, Nat.reduceAdd, Nat.reduceEqDiff, Nat.reduceLeDiff, reduceCtorEq]
                refine fin_same (.one (by simp)) ⟨?_, rfl⟩
                rw [← hR]
                first | (simp [timesB, timesB0, h1, g1, h2, g2, h3, h4, ByteArray.append_assoc]; done) | (exfalso; simp only [beq_iff_eq, beq_eq_false_iff_ne, ne_eq] at *; omega)
            · simp -implicitDefEqProofs only [ev, ↓reduceIte, Nat.reduceAdd, Nat.reduceEqDiff, Nat.reduceLeDiff, reduceCtorEq]
              refine .mk (fun h5 => ?_) (fun h5 => ?_)
              · simp -implicitDefEqProofs only [ev, ↓reduceIte, Nat.reduceAdd, Nat.reduceEqDiff, Nat.reduceLeDiff, reduceCtorEq]
                refine ⟨by (try simp only [ByteArray.size_append]); omega, ?_⟩
                cases z with
                | true =>
                  simp -implicitDefEqProofs only [ev, ↓reduceIte, Nat.reduceAdd, Nat.reduceEqDiff, Nat.reduceLeDiff, reduceCtorEq]
                  refine ⟨by (try simp only [ByteArray.size_append]); omega, fin_same (.one (by simp)) ⟨?_, rfl⟩⟩
                  rw [← hR]
                  first | (simp [timesB, timesB0, h1, g1, h2, g2, h3, h4, h5, ByteArray.append_assoc]; done) | (exfalso; simp only [beq_iff_eq, beq_eq_false_iff_ne, ne_eq] at *; omega)
                | false =>
                  simp -implicitDefEqProofs only [ev, ↓reduceIte, Nat.reduceAdd, Nat.reduceEqDiff, Nat.reduceLeDiff, reduceCtorEq]
                  refine fin_same (.one (by simp)) ⟨?_, rfl⟩
                  rw [← hR]
                  first | (simp [timesB, timesB0, h1, g1, h2, g2, h3, h4, h5, ByteArray.append_assoc]; done) | (exfalso; simp only [beq_iff_eq, beq_eq_false_iff_ne, ne_eq] at *; omega)
              · simp -implicitDefEqProofs only [ev, ↓reduceIte, Nat.reduceAdd, Nat.reduceEqDiff, Nat.reduceLeDiff, reduceCtorEq]
                refine ⟨by (try simp only [ByteArray.size_append]); omega, ?_⟩
                have hb0 : 0 ≤ b := by
                  have : ¬ b = -1 := by simpa using h5
                  omega
                refine acall_ret (f62_ok b hb0 hb) ?_
                simp -implicitDefEqProofs only [ev, ↓reduceIte, Nat.reduceAdd, Nat.reduceEqDiff, Nat.reduceLeDiff, reduceCtorEq]
                refine ⟨by (try simp only [ByteArray.size_append]); omega, by (try simp only [ByteArray.size_append]); omega, ?_⟩
                cases z with
                | true =>
                  simp -implicitDefEqProofs only [ev, ↓reduceIte, Nat.reduceAdd, Nat.reduceEqDiff, Nat.reduceLeDiff, reduceCtorEq]
                  refine ⟨by (try simp only [ByteArray.size_append]); omega, fin_same (.one (by simp)) ⟨?_, rfl⟩⟩
                  rw [← hR]
                  first | (simp [timesB, timesB0, h1, g1, h2, g2, h3, h4, h5, ByteArray.append_assoc]; done) | (exfalso; simp only [beq_iff_eq, beq_eq_false_iff_ne, ne_eq] at *; omega)
                | false =>
                  simp -implicitDefEqProofs only [ev, ↓reduceIte, Nat.reduceAdd, Nat.reduceEqDiff, Nat.reduceLeDiff, reduceCtorEq]
                  refine fin_same (.one (by simp)) ⟨?_, rfl⟩
                  rw [← hR]
                  first | (simp [timesB, timesB0, h1, g1, h2, g2, h3, h4, h5, ByteArray.append_assoc]; done) | (exfalso; simp only [beq_iff_eq, beq_eq_false_iff_ne, ne_eq] at *; omega)
      · simp -implicitDefEqProofs only [ev, ↓reduceIte, Nat.reduceAdd, Nat.reduceEqDiff, Nat.reduceLeDiff, reduceCtorEq, h2]
        refine .mk (fun h3 => ?_) (fun h3 => ?_)
        · simp -implicitDefEqProofs only [ev, ↓reduceIte, Nat.reduceAdd, Nat.reduceEqDiff, Nat.reduceLeDiff, reduceCtorEq, h3]
          refine .mk (fun g3 => ?_) (fun g3 => ?_)
          · simp -implicitDefEqProofs only [ev, ↓reduceIte, Nat.reduceAdd, Nat.reduceEqDiff, Nat.reduceLeDiff, reduceCtorEq, g3]
            cases z with
            | true =>
              simp -implicitDefEqProofs only [ev, ↓reduceIte, Nat.reduceAdd, Nat.reduceEqDiff, Nat.reduceLeDiff, reduceCtorEq]
              refine ⟨by (try simp only [ByteArray.size_append]); omega, fin_same (.one (by simp)) ⟨?_, rfl⟩⟩
              rw [← hR]
              first | (simp [timesB, timesB0, h1, g1, h2, h3, g3, ByteArray.append_assoc]; done) | (exfalso; simp only [beq_iff_eq, beq_eq_false_iff_ne, ne_eq] at *; omega)
            | false =>
              simp -implicitDefEqProofs only [ev, ↓reduceIte, Nat.reduceAdd, Nat.reduceEqDiff, Nat.reduceLeDiff, reduceCtorEq]
              refine fin_same (.one (by simp)) ⟨?_, rfl⟩
              rw [← hR]
              first | (simp [timesB, timesB0, h1, g1, h2, h3, g3, ByteArray.append_assoc]; done) | (exfalso; simp only [beq_iff_eq, beq_eq_false_iff_ne, ne_eq] at *; omega)
          · simp -implicitDefEqProofs only [ev, ↓reduceIte, Nat.reduceAdd, Nat.reduceEqDiff, Nat.reduceLeDiff, reduceCtorEq, g3]
            refine .mk (fun h4 => ?_) (fun h4 => ?_)
            · simp -implicitDefEqProofs only [ev, ↓reduceIte, Nat.reduceAdd, Nat.reduceEqDiff, Nat.reduceLeDiff, reduceCtorEq]
              refine ⟨by (try simp only [ByteArray.size_append]); omega, ?_⟩
              cases z with
              | true =>
                simp -implicitDefEqProofs only [ev, ↓reduceIte, Nat.reduceAdd, Nat.reduceEqDiff, Nat.reduceLeDiff, reduceCtorEq]
                refine ⟨by (try simp only [ByteArray.size_append]); omega, fin_same (.one (by simp)) ⟨?_, rfl⟩⟩
                rw [← hR]
                first | (simp [timesB, timesB0, h1, g1, h2, h3, g3, h4, ByteArray.append_assoc]; done) | (exfalso; simp only [beq_iff_eq, beq_eq_false_iff_ne, ne_eq] at *; omega)
              | false =>
                simp -implicitDefEqProofs only [ev, ↓reduceIte, Nat.reduceAdd, Nat.reduceEqDiff, Nat.reduceLeDiff, reduceCtorEq]
                refine fin_same (.one (by simp)) ⟨?_, rfl⟩
                rw [← hR]
                first | (simp [timesB, timesB0, h1, g1, h2, h3, g3, h4, ByteArray.append_assoc]; done) | (exfalso; simp only [beq_iff_eq, beq_eq_false_iff_ne, ne_eq] at *; omega)
            · simp -implicitDefEqProofs only [ev, ↓reduceIte, Nat.reduceAdd, Nat.reduceEqDiff, Nat.reduceLeDiff, reduceCtorEq]
              refine .mk (fun h5 => ?_) (fun h5 => ?_)
              · simp -implicitDefEqProofs only [ev, ↓reduceIte, Nat.reduceAdd, Nat.reduceEqDiff, Nat.reduceLeDiff, reduceCtorEq]
                refine ⟨by (try simp only [ByteArray.size_append]); omega, ?_⟩
                cases z with
                | true =>
                  simp -implicitDefEqProofs only [ev, ↓reduceIte, Nat.reduceAdd, Nat.reduceEqDiff, Nat.reduceLeDiff, reduceCtorEq]
                  refine ⟨by (try simp only [ByteArray.size_append]); omega, fin_same (.one (by simp)) ⟨?_, rfl⟩⟩
                  rw [← hR]
                  first | (simp [timesB, timesB0, h1, g1, h2, h3, g3, h4, h5, ByteArray.append_assoc]; done) | (exfalso; simp only [beq_iff_eq, beq_eq_false_iff_ne, ne_eq] at *; omega)
                | false =>
                  simp -implicitDefEqProofs only [ev, ↓reduceIte, Nat.reduceAdd, Nat.reduceEqDiff, Nat.reduceLeDiff, reduceCtorEq]
                  refine fin_same (.one (by simp)) ⟨?_, rfl⟩
                  rw [← hR]
                  first | (simp [timesB, timesB0, h1, g1, h2, h3, g3, h4, h5, ByteArray.append_assoc]; done) | (exfalso; simp only [beq_iff_eq, beq_eq_false_iff_ne, ne_eq] at *; omega)
              · simp -implicitDefEqProofs only [ev, ↓reduceIte, Nat.reduceAdd, Nat.reduceEqDiff, Nat.reduceLeDiff, reduceCtorEq]
                refine ⟨by (try simp only [ByteArray.size_append]); omega, ?_⟩
                have hb0 : 0 ≤ b := by
                  have : ¬ b = -1 := by simpa using h5
                  omega
                refine acall_ret (f62_ok b hb0 hb) ?_
                simp -implicitDefEqProofs only [ev, ↓reduceIte, Nat.reduceAdd, Nat.reduceEqDiff, Nat.reduceLeDiff, reduceCtorEq]
                refine ⟨by (try simp only [ByteArray.size_append]); omega, by (try simp only [ByteArray.size_append]); omega, ?_⟩
                cases z with
                | true =>
                  simp -implicitDefEqProofs only [ev, ↓reduceIte, Nat.reduceAdd, Nat.reduceEqDiff, Nat.reduceLeDiff, reduceCtorEq]
                  refine ⟨by (try simp only [ByteArray.size_append]); omega, fin_same (.one (by simp)) ⟨?_, rfl⟩⟩
                  rw [← hR]
                  first | (simp [timesB, timesB0, h1, g1, h2, h3, g3, h4, h5, ByteArray.append_assoc]; done) | (exfalso; simp only [beq_iff_eq, beq_eq_false_iff_ne, ne_eq] at *; omega)
                | false =>
                  simp -implicitDefEqProofs only [ev, ↓reduceIte, Nat.reduceAdd, Nat.reduceEqDiff, Nat.reduceLeDiff, reduceCtorEq]
                  refine fin_same (.one (by simp)) ⟨?_, rfl⟩
                  rw [← hR]
                  first | (simp [timesB, timesB0, h1, g1, h2, h3, g3, h4, h5, ByteArray.append_assoc]; done) | (exfalso; simp only [beq_iff_eq, beq_eq_false_iff_ne, ne_eq] at *; omega)
        · simp -implicitDefEqProofs only [ev, ↓reduceIte, Nat.reduceAdd, Nat.reduceEqDiff, Nat.reduceLeDiff, reduceCtorEq, h3]
          refine .mk (fun h4 => ?_) (fun h4 => ?_)
          · simp -implicitDefEqProofs only [ev, ↓reduceIte, Nat.reduceAdd, Nat.reduceEqDiff, Nat.reduceLeDiff, reduceCtorEq]
            refine ⟨by (try simp only [ByteArray.size_append]); omega, ?_⟩
            cases z with
            | true =>
              simp -implicitDefEqProofs only [ev, ↓reduceIte, Nat.reduceAdd, Nat.reduceEqDiff, Nat.reduceLeDiff, reduceCtorEq]
              refine ⟨by (try simp only [ByteArray.size_append]); omega, fin_same (.one (by simp)) ⟨?_, rfl⟩⟩
              rw [← hR]
              first | (simp [timesB, timesB0, h1, g1, h2, h3, h4, ByteArray.append_assoc]; done) | (exfalso; simp only [beq_iff_eq, beq_eq_false_iff_ne, ne_eq] at *; omega)
            | false =>
              simp -implicitDefEqProofs only [ev, ↓reduceIte, Nat.reduceAdd, Nat.reduceEqDiff, Nat.reduceLeDiff, reduceCtorEq]
              refine fin_same (.one (by simp)) ⟨?_, rfl⟩
              rw [← hR]
              first | (simp [timesB, timesB0, h1, g1, h2, h3, h4, ByteArray.append_assoc]; done) | (exfalso; simp only [beq_iff_eq, beq_eq_false_iff_ne, ne_eq] at *; omega)
          · simp -implicitDefEqProofs only [ev, ↓reduceIte, Nat.reduceAdd, Nat.reduceEqDiff, Nat.reduceLeDiff, reduceCtorEq]
            refine .mk (fun h5 => ?_) (fun h5 => ?_)
            · simp -implicitDefEqProofs only [ev, ↓reduceIte, Nat.reduceAdd, Nat.reduceEqDiff, Nat.reduceLeDiff, reduceCtorEq]
              refine ⟨by (try simp only [ByteArray.size_append]); omega, ?_⟩
              cases z with
              | true =>
                simp -implicitDefEqProofs only [ev, ↓reduceIte, Nat.reduceAdd, Nat.reduceEqDiff, Nat.reduceLeDiff, reduceCtorEq]
                refine ⟨by (try simp only [ByteArray.size_append]); omega, fin_same (.one (by simp)) ⟨?_, rfl⟩⟩
                rw [← hR]
                first | (simp [timesB, timesB0, h1, g1, h2, h3, h4, h5, ByteArray.append_assoc]; done) | (exfalso; simp only [beq_iff_eq, beq_eq_false_iff_ne, ne_eq] at *; omega)
              | false =>
                simp -implicitDefEqProofs only [ev, ↓reduceIte, Nat.reduceAdd, Nat.reduceEqDiff, Nat.reduceLeDiff, reduceCtorEq]
                refine fin_same (.one (by simp)) ⟨?_, rfl⟩
                rw [← hR]
                first | (simp [timesB, timesB0, h1, g1, h2, h3, h4, h5, ByteArray.append_assoc]; done) | (exfalso; simp only [beq_iff_eq, beq_eq_false_iff_ne, ne_eq] at *; omega)
            · simp -implicitDefEqProofs only [ev, ↓reduceIte, Nat.reduceAdd, Nat.reduceEqDiff, Nat.reduceLeDiff, reduceCtorEq]
              refine ⟨by (try simp only [ByteArray.size_append]); omega, ?_⟩
              have hb0 : 0 ≤ b := by
                have : ¬ b = -1 := by simpa using h5
                omega
              refine acall_ret (f62_ok b hb0 hb) ?_
              simp -implicitDefEqProofs only [ev, ↓reduceIte, Nat.reduceAdd, Nat.reduceEqDiff, Nat.reduceLeDiff, reduceCtorEq]
              refine ⟨by (try simp only [ByteArray.size_append]); omega, by (try simp only [ByteArray.size_append]); omega, ?_⟩
              cases z with
              | true =>
                simp -implicitDefEqProofs only [ev, ↓reduceIte, Nat.reduceAdd, Nat.reduceEqDiff, Nat.reduceLeDiff, reduceCtorEq]
                refine ⟨by (try simp only [ByteArray.size_append]); omega, fin_same (.one (by simp)) ⟨?_, rfl⟩⟩
                rw [← hR]
                first | (simp [timesB, timesB0, h1, g1, h2, h3, h4, h5, ByteArray.append_assoc]; done) | (exfalso; simp only [beq_iff_eq, beq_eq_false_iff_ne, ne_eq] at *; omega)
              | false =>
                simp -implicitDefEqProofs only [ev, ↓reduceIte, Nat.reduceAdd, Nat.reduceEqDiff, Nat.reduceLeDiff, reduceCtorEq]
                refine fin_same (.one (by simp)) ⟨?_, rfl⟩
                rw [← hR]
                first | (simp [timesB, timesB0, h1, g1, h2, h3, h4, h5, ByteArray.append_assoc]; done) | (exfalso; simp only [beq_iff_eq, beq_eq_false_iff_ne, ne_eq] at *; omega)
  · simp -implicitDefEqProofs only [ev, ↓reduceIte, Nat.reduceAdd, Nat.reduceEqDiff, Nat.reduceLeDiff, reduceCtorEq, h1]
    refine .mk (fun h2 => ?_) (fun h2 => ?_)
    · simp -implicitDefEqProofs only [ev, ↓reduceIte, Nat.reduceAdd, Nat.reduceEqDiff, Nat.reduceLeDiff, reduceCtorEq, h2]
      refine .mk (fun g2 => ?_) (fun g2 => ?_)
      · simp -implicitDefEqProofs only [ev, ↓reduceIte, Nat.reduceAdd, Nat.reduceEqDiff, Nat.reduceLeDiff, reduceCtorEq, g2]
        cases z with
        | true =>
          simp -implicitDefEqProofs only [ev, ↓reduceIte, Nat.reduceAdd, Nat.reduceEqDiff, Nat.reduceLeDiff, reduceCtorEq]
          refine ⟨by (try simp only [ByteArray.size_append]); omega, fin_same (.one (by simp)) ⟨?_, rfl⟩⟩
          rw [← hR]
          first | (simp [timesB, timesB0, h1, h2, g2, ByteArray.append_assoc]; done) | (exfalso; simp only [beq_iff_eq, beq_eq_false_iff_ne, ne_eq] at *; omega)
        | false =>
          simp -implicitDefEqProofs only [ev, ↓reduceIte, Nat.reduceAdd, Nat.reduceEqDiff, Nat.reduceLeDiff, reduceCtorEq]
          refine fin_same (.one (by simp)) ⟨?_, rfl⟩
          rw [← hR]
          first | (simp [timesB, timesB0, h1, h2, g2, ByteArray.append_assoc]; done) | (exfalso; simp only [beq_iff_eq, beq_eq_false_iff_ne, ne_eq] at *; omega)
      · simp -implicitDefEqProofs only [ev, ↓reduceIte, Nat.reduceAdd, Nat.reduceEqDiff, Nat.reduceLeDiff, reduceCtorEq, g2]
        refine .mk (fun h3 => ?_) (fun h3 => ?_)
        · simp -implicitDefEqProofs only [ev, ↓reduceIte, Nat.reduceAdd, Nat.reduceEqDiff, Nat.reduceLeDiff, reduceCtorEq, h3]
          refine .mk (fun g3 => ?_) (fun g3 => ?_)
          · simp -implicitDefEqProofs only [ev, ↓reduceIte, Nat.reduceAdd, Nat.reduceEqDiff, Nat.reduceLeDiff, reduceCtorEq, g3]
            cases z with
            | true =>
              simp -implicitDefEqProofs only [ev, ↓reduceIte, Nat.reduceAdd, Nat.reduceEqDiff, Nat.reduceLeDiff, reduceCtorEq]
              refine ⟨by (try simp only [ByteArray.size_append]); omega, fin_same (.one (by simp)) ⟨?_, rfl⟩⟩
              rw [← hR]
              first | (simp [timesB, timesB0, h1, h2, g2, h3, g3, ByteArray.append_assoc]; done) | (exfalso; simp only [beq_iff_eq, beq_eq_false_iff_ne, ne_eq] at *; omega)
            | false =>
              simp -implicitDefEqProofs only [ev, ↓reduceIte, Nat.reduceAdd, Nat.reduceEqDiff, Nat.reduceLeDiff, reduceCtorEq]
              refine fin_same (.one (by simp)) ⟨?_, rfl⟩
              rw [← hR]
              first | (simp [timesB, timesB0, h1, h2, g2, h3, g3, ByteArray.append_assoc]; done) | (exfalso; simp only [beq_iff_eq, beq_eq_false_iff_ne, ne_eq] at *; omega)
          · simp -implicitDefEqProofs only [ev, ↓reduceIte, Nat.reduceAdd, Nat.reduceEqDiff, Nat.reduceLeDiff, reduceCtorEq, g3]
            refine .mk (fun h4 => ?_) (fun h4 => ?_)
            · simp -implicitDefEqProofs only [ev, ↓reduceIte, Nat.reduceAdd, Nat.reduceEqDiff, Nat.reduceLeDiff, reduceCtorEq]
              refine ⟨by (try simp only [ByteArray.size_append]); omega, ?_⟩
              cases z with
              | true =>
                simp -implicitDefEqProofs only [ev, ↓reduceIte, Nat.reduceAdd, Nat.reduceEqDiff, Nat.reduceLeDiff, reduceCtorEq]
                refine ⟨by (try simp only [ByteArray.size_append]); omega, fin_same (.one (by simp)) ⟨?_, rfl⟩⟩
                rw [← hR]
                first | (simp [timesB, timesB0, h1, h2, g2, h3, g3, h4, ByteArray.append_assoc]; done) | (exfalso; simp only [beq_iff_eq, beq_eq_false_iff_ne, ne_eq] at *; omega)
              | false =>
                simp -implicitDefEqProofs only [ev, ↓reduceIte, Nat.reduceAdd, Nat.reduceEqDiff, Nat.reduceLeDiff, reduceCtorEq]
                refine fin_same (.one (by simp)) ⟨?_, rfl⟩
                rw [← hR]
                first | (simp [timesB, timesB0, h1, h2, g2, h3, g3, h4, ByteArray.append_assoc]; done) | (exfalso; simp only [beq_iff_eq, beq_eq_false_iff_ne, ne_eq] at *; omega)
            · simp -implicitDefEqProofs only [ev, ↓reduceIte, Nat.reduceAdd, Nat.reduceEqDiff, Nat.reduceLeDiff, reduceCtorEq]
              refine .mk (fun h5 => ?_) (fun h5 => ?_)
              · simp -implicitDefEqProofs only [ev, ↓reduceIte, Nat.reduceAdd, Nat.reduceEqDiff, Nat.reduceLeDiff, reduceCtorEq]
                refine ⟨by (try simp only [ByteArray.size_append]); omega, ?_⟩
                cases z with
                | true =>
                  simp -implicitDefEqProofs only [ev, ↓reduceIte, Nat.reduceAdd, Nat.reduceEqDiff, Nat.reduceLeDiff, reduceCtorEq]
                  refine ⟨by (try simp only [ByteArray.size_append]); omega, fin_same (.one (by simp)) ⟨?_, rfl⟩⟩
                  rw [← hR]
                  first | (simp [timesB, timesB0, h1, h2, g2, h3, g3, h4, h5, ByteArray.append_assoc]; done) | (exfalso; simp only [beq_iff_eq, beq_eq_false_iff_ne, ne_eq] at *; omega)
                | false =>
                  simp -implicitDefEqProofs only [ev, ↓reduceIte, Nat.reduceAdd, Nat.reduceEqDiff, Nat.reduceLeDiff, reduceCtorEq]
                  refine fin_same (.one (by simp)) ⟨?_, rfl⟩
                  rw [← hR]
                  first | (simp [timesB, timesB0, h1, h2, g2, h3, g3, h4, h5, ByteArray.append_assoc]; done) | (exfalso; simp only [beq_iff_eq, beq_eq_false_iff_ne, ne_eq] at *; omega)
              · simp -implicitDefEqProofs only [ev, ↓reduceIte, Nat.reduceAdd, Nat.reduceEqDiff, Nat.reduceLeDiff, reduceCtorEq]
                refine ⟨by (try simp only [ByteArray.size_append]); omega, ?_⟩
                have hb0 : 0 ≤ b := by
                  have : ¬ b = -1 := by simpa using h5
                  omega
                refine acall_ret (f62_ok b hb0 hb) ?_
                simp -implicitDefEqProofs only [ev, ↓reduceIte, Nat.reduceAdd, Nat.reduceEqDiff, Nat.reduceLeDiff, reduceCtorEq]
                refine ⟨by (try simp only [ByteArray.size_append]); omega, by (try simp only [ByteArray.size_append]); omega, ?_⟩
                cases z with
                | true =>
                  simp -implicitDefEqProofs only [ev, ↓reduceIte, Nat.reduceAdd, Nat.reduceEqDiff, Nat.reduceLeDiff, reduceCtorEq]
                  refine ⟨by (try simp only [ByteArray.size_append]); omega, fin_same (.one (by simp)) ⟨?_, rfl⟩⟩
                  rw [← hR]
                  first | (simp [timesB, timesB0, h1, h2, g2, h3, g3, h4, h5, ByteArray.append_assoc]; done) | (exfalso; simp only [beq_iff_eq, beq_eq_false_iff_ne, ne_eq] at *; omega)
                | false =>
                  simp -implicitDefEqProofs only [ev, ↓reduceIte, Nat.reduceAdd, Nat.reduceEqDiff, Nat.reduceLeDiff, reduceCtorEq]
                  refine fin_same (.one (by simp)) ⟨?_, rfl⟩
                  rw [← hR]
                  first | (simp [timesB, timesB0, h1, h2, g2, h3, g3, h4, h5, ByteArray.append_assoc]; done) | (exfalso; simp only [beq_iff_eq, beq_eq_false_iff_ne, ne_eq] at *; omega)
        · simp -implicitDefEqProofs only [ev, ↓reduceIte, Nat.reduceAdd, Nat.reduceEqDiff, Nat.reduceLeDiff, reduceCtorEq, h3]
          refine .mk (fun h4 => ?_) (fun h4 => ?_)
          · simp -implicitDefEqProofs only [ev, ↓reduceIte, Nat.reduceAdd, Nat.reduceEqDiff, Nat.reduceLeDiff, reduceCtorEq]
            refine ⟨by (try simp only [ByteArray.size_append]); omega, ?_⟩
            cases z with
            | true =>
              simp -implicitDefEqProofs only [ev, ↓reduceIte, Nat.reduceAdd, Nat.reduceEqDiff, Nat.reduceLeDiff, reduceCtorEq]
              refine ⟨by (try simp only [ByteArray.size_append]); omega, fin_same (.one (by simp)) ⟨?_, rfl⟩⟩
              rw [← hR]
              first | (simp [timesB, timesB0, h1, h2, g2, h3, h4, ByteArray.append_assoc]; done) | (exfalso; simp only [beq_iff_eq, beq_eq_false_iff_ne, ne_eq] at *; omega)
            | false =>
              simp -implicitDefEqProofs only [ev, ↓reduceIte, Nat.reduceAdd, Nat.reduceEqDiff, Nat.reduceLeDiff, reduceCtorEq]
              refine fin_same (.one (by simp)) ⟨?_, rfl⟩
              rw [← hR]
              first | (simp [timesB, timesB0, h1, h2, g2, h3, h4, ByteArray.append_assoc]; done) | (exfalso; simp only [beq_iff_eq, beq_eq_false_iff_ne, ne_eq] at *; omega)
          · simp -implicitDefEqProofs only [ev, ↓reduceIte, Nat.reduceAdd, Nat.reduceEqDiff, Nat.reduceLeDiff, reduceCtorEq]
            refine .mk (fun h5 => ?_) (fun h5 => ?_)
            · simp -implicitDefEqProofs only [ev, ↓reduceIte, Nat.reduceAdd, Nat.reduceEqDiff, Nat.reduceLeDiff, reduceCtorEq]
              refine ⟨by (try simp only [ByteArray.size_append]); omega, ?_⟩
              cases z with
              | true =>
                simp -implicitDefEqProofs only [ev, ↓reduceIte, Nat.reduceAdd, Nat.reduceEqDiff, Nat.reduceLeDiff, reduceCtorEq]
                refine ⟨by (try simp only [ByteArray.size_append]); omega, fin_same (.one (by simp)) ⟨?_, rfl⟩⟩
                rw [← hR]
                first | (simp [timesB, timesB0, h1, h2, g2, h3, h4, h5, ByteArray.append_assoc]; done) | (exfalso; simp only [beq_iff_eq, beq_eq_false_iff_ne, ne_eq] at *; omega)
              | false =>
                simp -implicitDefEqProofs only [ev, ↓reduceIte, Nat.reduceAdd, Nat.reduceEqDiff, Nat.reduceLeDiff, reduceCtorEq]
                refine fin_same (.one (by simp)) ⟨?_, rfl⟩
                rw [← hR]
                first | (simp [timesB, timesB0, h1, h2, g2, h3, h4, h5, ByteArray.append_assoc]; done) | (exfalso; simp only [beq_iff_eq, beq_eq_false_iff_ne, ne_eq] at *; omega)
            · simp -implicitDefEqProofs only [ev, ↓reduceIte, Nat.reduceAdd, Nat.reduceEqDiff, Nat.reduceLeDiff, reduceCtorEq]
              refine ⟨by (try simp only [ByteArray.size_append]); omega, ?_⟩
              have hb0 : 0 ≤ b := by
                have : ¬ b = -1 := by simpa using h5
                omega
              refine acall_ret (f62_ok b hb0 hb) ?_
              simp -implicitDefEqProofs only [ev, ↓reduceIte, Nat.reduceAdd, Nat.reduceEqDiff, Nat.reduceLeDiff, reduceCtorEq]
              refine ⟨by (try simp only [ByteArray.size_append]); omega, by (try simp only [ByteArray.size_append]); omega, ?_⟩
              cases z with
              | true =>
                simp -implicitDefEqProofs only [ev, ↓reduceIte, Nat.reduceAdd, Nat.reduceEqDiff, Nat.reduceLeDiff, reduceCtorEq]
                refine ⟨by (try simp only [ByteArray.size_append]); omega, fin_same (.one (by simp)) ⟨?_, rfl⟩⟩
                rw [← hR]
                first | (simp [timesB, timesB0, h1, h2, g2, h3, h4, h5, ByteArray.append_assoc]; done) | (exfalso; simp only [beq_iff_eq, beq_eq_false_iff_ne, ne_eq] at *; omega)
              | false =>
                simp -implicitDefEqProofs only [ev, ↓reduceIte, Nat.reduceAdd, Nat.reduceEqDiff, Nat.reduceLeDiff, reduceCtorEq]
                refine fin_same (.one (by simp)) ⟨?_, rfl⟩
                rw [← hR]
                first | (simp [timesB, timesB0, h1, h2, g2, h3, h4, h5, ByteArray.append_assoc]; done) | (exfalso; simp only [beq_iff_eq, beq_eq_false_iff_ne, ne_eq] at *; omega)
    · simp -implicitDefEqProofs only [ev, ↓reduceIte, Nat.reduceAdd, Nat.reduceEqDiff, Nat.reduceLeDiff, reduceCtorEq, h2]
      refine .mk (fun h3 => ?_) (fun h3 => ?_)
      · simp -implicitDefEqProofs only [ev, ↓reduceIte, Nat.reduceAdd, Nat.reduceEqDiff, Nat.reduceLeDiff, reduceCtorEq, h3]
        refine .mk (fun g3 => ?_) (fun g3 => ?_)
        · simp -implicitDefEqProofs only [ev, ↓reduceIte, Nat.reduceAdd, Nat.reduceEqDiff, Nat.reduceLeDiff, reduceCtorEq, g3]
          cases z with
          | true =>
            simp -implicitDefEqProofs only [ev, ↓reduceIte, Nat.reduceAdd, Nat.reduceEqDiff, Nat.reduceLeDiff, reduceCtorEq]
            refine ⟨by (try simp only [ByteArray.size_append]); omega, fin_same (.one (by simp)) ⟨?_, rfl⟩⟩
            rw [← hR]
            first | (simp [timesB, timesB0, h1, h2, h3, g3, ByteArray.append_assoc]; done) | (exfalso; simp only [beq_iff_eq, beq_eq_false_iff_ne, ne_eq] at *; omega)
          | false =>
            simp -implicitDefEqProofs only [ev, ↓reduceIte, Nat.reduceAdd, Nat.reduceEqDiff, Nat.reduceLeDiff, reduceCtorEq]
            refine fin_same (.one (by simp)) ⟨?_, rfl⟩
            rw [← hR]
            first | (simp [timesB, timesB0, h1, h2, h3, g3, ByteArray.append_assoc]; done) | (exfalso; simp only [beq_iff_eq, beq_eq_false_iff_ne, ne_eq] at *; omega)
        · simp -implicitDefEqProofs only [ev, ↓reduceIte, Nat.reduceAdd, Nat.reduceEqDiff, Nat.reduceLeDiff, reduceCtorEq, g3]
          refine .mk (fun h4 => ?_) (fun h4 => ?_)
          · simp -implicitDefEqProofs only [ev, ↓reduceIte, Nat.reduceAdd, Nat.reduceEqDiff, Nat.reduceLeDiff, reduceCtorEq]
            refine ⟨by (try simp only [ByteArray.size_append]); omega, ?_⟩
            cases z with
            | true =>
              simp -implicitDefEqProofs only [ev, ↓reduceIte, Nat.reduceAdd, Nat.reduceEqDiff, Nat.reduceLeDiff, reduceCtorEq]
              refine ⟨by (try simp only [ByteArray.size_append]); omega, fin_same (.one (by simp)) ⟨?_, rfl⟩⟩
              rw [← hR]
              first | (simp [timesB, timesB0, h1, h2, h3, g3, h4, ByteArray.append_assoc]; done) | (exfalso; simp only [beq_iff_eq, beq_eq_false_iff_ne, ne_eq] at *; omega)
            | false =>
              simp -implicitDefEqProofs only [ev, ↓reduceIte, Nat.reduceAdd, Nat.reduceEqDiff, Nat.reduceLeDiff, reduceCtorEq]
              refine fin_same (.one (by simp)) ⟨?_, rfl⟩
              rw [← hR]
              first | (simp [timesB, timesB0, h1, h2, h3, g3, h4, ByteArray.append_assoc]; done) | (exfalso; simp only [beq_iff_eq, beq_eq_false_iff_ne, ne_eq] at *; omega)
          · simp -implicitDefEqProofs only [ev, ↓reduceIte, Nat.reduceAdd, Nat.reduceEqDiff, Nat.reduceLeDiff, reduceCtorEq]
            refine .mk (fun h5 => ?_) (fun h5 => ?_)
            · simp -implicitDefEqProofs only [ev, ↓reduceIte, Nat.reduceAdd, Nat.reduceEqDiff, Nat.reduceLeDiff, reduceCtorEq]
              refine ⟨by (try simp only [ByteArray.size_append]); omega, ?_⟩
              cases z with
              | true =>
                simp -implicitDefEqProofs only [ev, ↓reduceIte, Nat.reduceAdd, Nat.reduceEqDiff, Nat.reduceLeDiff, reduceCtorEq]
                refine ⟨by (try simp only [ByteArray.size_append]); omega, fin_same (.one (by simp)) ⟨?_, rfl⟩⟩
                rw [← hR]
                first | (simp [timesB, timesB0, h1, h2, h3, g3, h4, h5, ByteArray.append_assoc]; done) | (exfalso; simp only [beq_iff_eq, beq_eq_false_iff_ne, ne_eq] at *; omega)
              | false =>
                simp -implicitDefEqProofs only [ev, ↓reduceIte, Nat.reduceAdd, Nat.reduceEqDiff, Nat.reduceLeDiff, reduceCtorEq]
                refine fin_same (.one (by simp)) ⟨?_, rfl⟩
                rw [← hR]
                first | (simp [timesB, timesB0, h1, h2, h3, g3, h4, h5, ByteArray.append_assoc]; done) | (exfalso; simp only [beq_iff_eq, beq_eq_false_iff_ne, ne_eq] at *; omega)
            · simp -implicitDefEqProofs only [ev, ↓reduceIte, Nat.reduceAdd, Nat.reduceEqDiff, Nat.reduceLeDiff, reduceCtorEq]
              refine ⟨by (try simp only [ByteArray.size_append]); omega, ?_⟩
              have hb0 : 0 ≤ b := by
                have : ¬ b = -1 := by simpa using h5
                omega
              refine acall_ret (f62_ok b hb0 hb) ?_
              simp -implicitDefEqProofs only [ev, ↓reduceIte, Nat.reduceAdd, Nat.reduceEqDiff, Nat.reduceLeDiff, reduceCtorEq]
              refine ⟨by (try simp only [ByteArray.size_append]); omega, by (try simp only [ByteArray.size_append]); omega, ?_⟩
              cases z with
              | true =>
                simp -implicitDefEqProofs only [ev, ↓reduceIte, Nat.reduceAdd, Nat.reduceEqDiff, Nat.reduceLeDiff, reduceCtorEq]
                refine ⟨by (try simp only [ByteArray.size_append]); omega, fin_same (.one (by simp)) ⟨?_, rfl⟩⟩
                rw [← hR]
                first | (simp [timesB, timesB0, h1, h2, h3, g3, h4, h5, ByteArray.append_assoc]; done) | (exfalso; simp only [beq_iff_eq, beq_eq_false_iff_ne, ne_eq] at *; omega)
              | false =>
                simp -implicitDefEqProofs only [ev, ↓reduceIte, Nat.reduceAdd, Nat.reduceEqDiff, Nat.reduceLeDiff, reduceCtorEq]
                refine fin_same (.one (by simp)) ⟨?_, rfl⟩
                rw [← hR]
                first | (simp [timesB, timesB0, h1, h2, h3, g3, h4, h5, ByteArray.append_assoc]; done) | (exfalso; simp only [beq_iff_eq, beq_eq_false_iff_ne, ne_eq] at *; omega)
      · simp -implicitDefEqProofs only [ev, ↓reduceIte, Nat.reduceAdd, Nat.reduceEqDiff, Nat.reduceLeDiff, reduceCtorEq, h3]
        refine .mk (fun h4 => ?_) (fun h4 => ?_)
        · simp -implicitDefEqProofs only [ev, ↓reduceIte, Nat.reduceAdd, Nat.reduceEqDiff, Nat.reduceLeDiff, reduceCtorEq]
          refine ⟨by (try simp only [ByteArray.size_append]); omega, ?_⟩
          cases z with
          | true =>
            simp -implicitDefEqProofs only [ev, ↓reduceIte, Nat.reduceAdd, Nat.reduceEqDiff, Nat.reduceLeDiff, reduceCtorEq]
            refine ⟨by (try simp only [ByteArray.size_append]); omega, fin_same (.one (by simp)) ⟨?_, rfl⟩⟩
            rw [← hR]
            first | (simp [timesB, timesB0, h1, h2, h3, h4, ByteArray.append_assoc]; done) | (exfalso; simp only [beq_iff_eq, beq_eq_false_iff_ne, ne_eq] at *; omega)
          | false =>
            simp -implicitDefEqProofs only [ev, ↓reduceIte, Nat.reduceAdd, Nat.reduceEqDiff, Nat.reduceLeDiff, reduceCtorEq]
            refine fin_same (.one (by simp)) ⟨?_, rfl⟩
            rw [← hR]
            first | (simp [timesB, timesB0, h1, h2, h3, h4, ByteArray.append_assoc]; done) | (exfalso; simp only [beq_iff_eq, beq_eq_false_iff_ne, ne_eq] at *; omega)
        · simp -implicitDefEqProofs only [ev, ↓reduceIte, Nat.reduceAdd, Nat.reduceEqDiff, Nat.reduceLeDiff, reduceCtorEq]
          refine .mk (fun h5 => ?_) (fun h5 => ?_)
          · simp -implicitDefEqProofs only [ev, ↓reduceIte, Nat.reduceAdd, Nat.reduceEqDiff, Nat.reduceLeDiff, reduceCtorEq]
            refine ⟨by (try simp only [ByteArray.size_append]); omega, ?_⟩
            cases z with
            | true =>
              simp -implicitDefEqProofs only [ev, ↓reduceIte, Nat.reduceAdd, Nat.reduceEqDiff, Nat.reduceLeDiff, reduceCtorEq]
              refine ⟨by (try simp only [ByteArray.size_append]); omega, fin_same (.one (by simp)) ⟨?_, rfl⟩⟩
              rw [← hR]
              first | (simp [timesB, timesB0, h1, h2, h3, h4, h5, ByteArray.append_assoc]; done) | (exfalso; simp only [beq_iff_eq, beq_eq_false_iff_ne, ne_eq] at *; omega)
            | false =>
              simp -implicitDefEqProofs only [ev, ↓reduceIte, Nat.reduceAdd, Nat.reduceEqDiff, Nat.reduceLeDiff, reduceCtorEq]
              refine fin_same (.one (by simp)) ⟨?_, rfl⟩
              rw [← hR]
              first | (simp [timesB, timesB0, h1, h2, h3, h4, h5, ByteArray.append_assoc]; done) | (exfalso; simp only [beq_iff_eq, beq_eq_false_iff_ne, ne_eq] at *; omega)
          · simp -implicitDefEqProofs only [ev, ↓reduceIte, Nat.reduceAdd, Nat.reduceEqDiff, Nat.reduceLeDiff, reduceCtorEq]
            refine ⟨by (try simp only [ByteArray.size_append]); omega, ?_⟩
            have hb0 : 0 ≤ b := by
              have : ¬ b = -1 := by simpa using h5
              omega
            refine acall_ret (f62_ok b hb0 hb) ?_
            simp -implicitDefEqProofs only [ev, ↓reduceIte, Nat.reduceAdd, Nat.reduceEqDiff, Nat.reduceLeDiff, reduceCtorEq]
            refine ⟨by (try simp only [ByteArray.size_append]); omega, by (try simp only [ByteArray.size_append]); omega, ?_⟩
            cases z with
            | true =>
              simp -implicitDefEqProofs only [ev, ↓reduceIte, Nat.reduceAdd, Nat.reduceEqDiff, Nat.reduceLeDiff, reduceCtorEq]
              refine ⟨by (try simp only [ByteArray.size_append]); omega, fin_same (.one (by simp)) ⟨?_, rfl⟩⟩
              rw [← hR]
              first | (simp [timesB, timesB0, h1, h2, h3, h4, h5, ByteArray.append_assoc]; done) | (exfalso; simp only [beq_iff_eq, beq_eq_false_iff_ne, ne_eq] at *; omega)
            | false =>
              simp -implicitDefEqProofs only [ev, ↓reduceIte, Nat.reduceAdd, Nat.reduceEqDiff, Nat.reduceLeDiff, reduceCtorEq]
              refine fin_same (.one (by simp)) ⟨?_, rfl⟩
              rw [← hR]
              first | (simp [timesB, timesB0, h1, h2, h3, h4, h5, ByteArray.append_assoc]; done) | (exfalso; simp only [beq_iff_eq, beq_eq_false_iff_ne, ne_eq] at *; omega)
end Go.Av

namespace Go.Av
open Go.RowKit Go.Proofs.Tryz

theorem f35_ok (c : Cls) (hc : ClsOk c) : Ret prog 35 [.one (.iv (clsIV c))] (.one (sct (.string (putClassB c)))) := by
  refine .of r35_ok (by simp) (.one (by simp)) (by simp [r35]) ?_
  generalize hR : putClassB c = R
  simp only [oo, on, og, om, ol, oh, zN, ci, r35, initTm, Nat.reduceAdd]
  simp -implicitDefEqProofs only [ev, ↓reduceIte, Nat.reduceAdd, Nat.reduceEqDiff, Nat.reduceLeDiff, reduceCtorEq]
  refine acall_ret f58_ok ?_
  simp -implicitDefEqProofs only [ev, ↓reduceIte, Nat.reduceAdd, Nat.reduceEqDiff, Nat.reduceLeDiff, reduceCtorEq]
  refine acall_ret (f40_ok c dotL) ?_
  cases h1 : c == dotL with
  | true =>
    simp -implicitDefEqProofs only [ev, ↓reduceIte, Nat.reduceAdd, Nat.reduceEqDiff, Nat.reduceLeDiff, reduceCtorEq, h1]
    refine fin_same (.one (by simp)) ⟨?_, rfl⟩
    rw [← hR]; simp only [putClassB, h1, if_true, sct]
  | false =>
    simp only [clsIV]
    cases hl : ((c.length : Int) == 1) with
    | false =>
      have h0 : oneRune c = false := by
        rw [Bool.eq_false_iff, ne_eq, oneRune_iff]
        rintro ⟨r, rfl, _⟩
        simp at hl
      simp -implicitDefEqProofs only [ev, ↓reduceIte, Nat.reduceAdd, Nat.reduceEqDiff, Nat.reduceLeDiff, reduceCtorEq, h1, hl]
      simp -implicitDefEqProofs only [ev, ↓reduceIte, Nat.reduceAdd, Nat.reduceEqDiff, Nat.reduceLeDiff, reduceCtorEq, awp_loop]
      have hRR : R = c.foldl rgStep ⟨#[91]⟩ ++ ⟨#[93]⟩ := by
        rw [← hR]; simp only [putClassB, h1, h0, Bool.false_eq_true, if_false]
      have hlen := hc.len
      obtain ⟨F, hF⟩ : ∃ F, c.foldl rgStep ⟨#[91]⟩ = F := ⟨_, rfl⟩
      rw [hF] at hRR
      refine aloop_mk (σ := Nat × ByteArray) (fun q => [(0, .one (.iv (.sl 2 (c.map Rg.cells)))), (3, .one (sct (.string q.2))), (4, .one (sct (.int .i64 (q.1 : Nat))))])
        (fun _ => Hp.nil) (fun q => q.1 ≤ c.length ∧ q.2.size ≤ 1 + 11 * q.1 ∧ (c.drop q.1).foldl rgStep q.2 = F) (fun q => c.length - q.1) (0, ⟨#[91]⟩) ⟨by simp, by decide, hF⟩ (wk_none ?_) ?_
      · simp only [wk, ↓reduceIte, Nat.reduceEqDiff, reduceCtorEq, Nat.reduceLT]
        simp
      rintro ⟨i, out⟩ ⟨hi, hsz, hE⟩
      simp only at hi hsz hE
      simp only [oo, on, og, om, ol, oh, zN, ci, r35_l0]
      simp -implicitDefEqProofs only [ev, ↓reduceIte, Nat.reduceAdd, Nat.reduceEqDiff, Nat.reduceLeDiff, reduceCtorEq]
      refine .mk fun hb => ?_
      simp -implicitDefEqProofs only [ev, ↓reduceIte, Nat.reduceAdd, Nat.reduceEqDiff, Nat.reduceLeDiff, reduceCtorEq]
      refine .mk (fun h => ?_) (fun h => ?_)
      · have hlt : i < c.length := by simpa using h
        have hx := List.getElem?_eq_getElem hlt
        have hm := List.getElem_mem hlt
        rw [List.drop_eq_getElem_cons hlt, List.foldl_cons] at hE
        generalize c[i] = r at hx hm hE
        have k1 := hc.lo r hm
        have k2 := hc.hi r hm
        cases r with
        | mk lo1 hi1 =>
        have s1 := escB_size lo1 inClsB
        have s2 := escB_size hi1 inClsB
        have e45 : (⟨#[45]⟩ : ByteArray).size = 1 := rfl
        have hst := rgStep_size out ⟨lo1, hi1⟩
        have hw : IntKind.i64.wrap ((i : Int) + 1) = ((i + 1 : Nat) : Int) := wrap64 (by omega) (by omega)
        simp -implicitDefEqProofs only [ev, ↓reduceIte, Nat.reduceAdd, Nat.reduceEqDiff, Nat.reduceLeDiff, reduceCtorEq, List.getElem?_map, hx, Rg.cells, Int.natCast_nonneg]
        refine acall_ret (f61_ok lo1 k1) ?_
        simp -implicitDefEqProofs only [ev, ↓reduceIte, Nat.reduceAdd, Nat.reduceEqDiff, Nat.reduceLeDiff, reduceCtorEq, List.getElem?_map, hx, Rg.cells, Int.natCast_nonneg]
        refine ⟨by omega, ?_⟩
        refine .mk (fun h5 => ?_) (fun h5 => ?_)
        · simp -implicitDefEqProofs only [ev, ↓reduceIte, Nat.reduceAdd, Nat.reduceEqDiff, Nat.reduceLeDiff, reduceCtorEq, List.getElem?_map, hx, Rg.cells, Int.natCast_nonneg]
          refine ⟨by simp only [ByteArray.size_append]; omega, ?_⟩
          refine acall_ret (f61_ok hi1 k2) ?_
          simp -implicitDefEqProofs only [ev, ↓reduceIte, Nat.reduceAdd, Nat.reduceEqDiff, Nat.reduceLeDiff, reduceCtorEq]
          refine ⟨by simp only [ByteArray.size_append]; omega, (i + 1, rgStep out ⟨lo1, hi1⟩), ⟨by simp only; omega, by simp only; omega, hE⟩, by simp only; omega, wk_none ?_⟩
          have hs : rgStep out ⟨lo1, hi1⟩ = out ++ escB lo1 inClsB ++ ⟨#[45]⟩ ++ escB hi1 inClsB := by
            have : (hi1 == lo1) = false := by rw [beq_eq_false_iff_ne]; simpa using h5
            simp only [rgStep, this, Bool.false_eq_true, if_false]
            rw [ByteArray.append_assoc, ByteArray.append_assoc, ByteArray.append_assoc]
            rfl
          rw [hw, hs]
          simp only [wk, ↓reduceIte, Nat.reduceEqDiff, reduceCtorEq, Nat.reduceLT]
        · simp -implicitDefEqProofs only [ev, ↓reduceIte, Nat.reduceAdd, Nat.reduceEqDiff, Nat.reduceLeDiff, reduceCtorEq]
          refine ⟨(i + 1, rgStep out ⟨lo1, hi1⟩), ⟨by simp only; omega, by simp only; omega, hE⟩, by simp only; omega, wk_none ?_⟩
          have hs : rgStep out ⟨lo1, hi1⟩ = out ++ escB lo1 inClsB := by
            have : (hi1 == lo1) = true := by rw [beq_iff_eq]; simpa using h5
            simp only [rgStep, this, if_true]
            rfl
          rw [hw, hs]
          simp only [wk, ↓reduceIte, Nat.reduceEqDiff, reduceCtorEq, Nat.reduceLT]
      · simp -implicitDefEqProofs only [ev, ↓reduceIte, Nat.reduceAdd, Nat.reduceEqDiff, Nat.reduceLeDiff, reduceCtorEq]
        have e1 : c.drop i = [] := List.drop_eq_nil_of_le (by have := of_decide_eq_false h; omega)
        rw [e1, List.foldl_nil] at hE
        have e93 : (⟨#[93]⟩ : ByteArray).size = 1 := rfl
        refine ⟨by omega, fin_same (.one (by simp)) ⟨by rw [hRR, hE], rfl⟩⟩
    | true =>
      obtain ⟨⟨lo, hi_⟩, rfl⟩ : ∃ r, c = [r] := by
        have : c.length = 1 := by have := eq_of_beq hl; omega
        exact List.length_eq_one_iff.1 this
      have hlo : okR lo = true := hc.lo ⟨lo, hi_⟩ (by simp)
      generalize hce : [(⟨lo, hi_⟩ : Rg)] = c at *
      have hx : c[0]? = some ⟨lo, hi_⟩ := by rw [← hce]; rfl
      have hll : c.length = 1 := by rw [← hce]; rfl
      cases h2 : lo == hi_ with
      | true =>
        have h0 : oneRune c = true := by rw [← hce]; exact h2
        have h4 : headLo c = lo := by rw [← hce]; rfl
        simp -implicitDefEqProofs only [ev, ↓reduceIte, Nat.reduceAdd, Nat.reduceEqDiff, Nat.reduceLeDiff, reduceCtorEq, h1, hl, List.getElem?_map, hx, Rg.cells, h2]
        have hre : R = escB lo specB := by
          rw [← hR]
          simp only [putClassB, h1, Bool.false_eq_true, if_false, h0, h4, if_true]
          rfl
        have hz := escB_size lo specB
        refine ⟨Int.le_refl _, Int.le_refl _, Int.le_refl _, acall_ret (f59_ok lo) ?_⟩
        cases hs : isR lo specB with
        | true =>
          have hre2 : R = ⟨#[92]⟩ ++ Utf8.encode lo := by rw [hre, escB, if_pos hs]
          rw [← hre, hre2, ByteArray.size_append] at hz
          simp -implicitDefEqProofs only [ev, ↓reduceIte, Nat.reduceAdd, Nat.reduceEqDiff, Nat.reduceLeDiff, reduceCtorEq, List.getElem?_map, hx, Rg.cells]
          refine ⟨Int.le_refl _, acall_ret (f60_ok lo hlo) ?_⟩
          simp -implicitDefEqProofs only [ev, ↓reduceIte, Nat.reduceAdd, Nat.reduceEqDiff, Nat.reduceLeDiff, reduceCtorEq]
          exact ⟨by omega, fin_same (.one (by simp)) ⟨by rw [hre2], rfl⟩⟩
        | false =>
          have hre2 : R = Utf8.encode lo := by rw [hre, escB, if_neg (by rw [hs]; decide)]
          simp -implicitDefEqProofs only [ev, ↓reduceIte, Nat.reduceAdd, Nat.reduceEqDiff, Nat.reduceLeDiff, reduceCtorEq, List.getElem?_map, hx, Rg.cells]
          refine ⟨Int.le_refl _, acall_ret (f60_ok lo hlo) ?_⟩
          simp -implicitDefEqProofs only [ev, ↓reduceIte, Nat.reduceAdd, Nat.reduceEqDiff, Nat.reduceLeDiff, reduceCtorEq]
          exact fin_same (.one (by simp)) ⟨by rw [hre2], rfl⟩
      | false =>
        have h0 : oneRune c = false := by rw [← hce]; exact h2
        simp -implicitDefEqProofs only [ev, ↓reduceIte, Nat.reduceAdd, Nat.reduceEqDiff, Nat.reduceLeDiff, reduceCtorEq, h1, hl, List.getElem?_map, hx, Rg.cells, h2]
        refine ⟨Int.le_refl _, Int.le_refl _, ?_⟩
        simp -implicitDefEqProofs only [ev, ↓reduceIte, Nat.reduceAdd, Nat.reduceEqDiff, Nat.reduceLeDiff, reduceCtorEq, awp_loop]
        have hRR : R = c.foldl rgStep ⟨#[91]⟩ ++ ⟨#[93]⟩ := by
          rw [← hR]; simp only [putClassB, h1, h0, Bool.false_eq_true, if_false]
        have hlen := hc.len
        obtain ⟨F, hF⟩ : ∃ F, c.foldl rgStep ⟨#[91]⟩ = F := ⟨_, rfl⟩
        rw [hF] at hRR
        refine aloop_mk (σ := Nat × ByteArray) (fun q => [(0, .one (.iv (.sl 2 (c.map Rg.cells)))), (3, .one (sct (.string q.2))), (4, .one (sct (.int .i64 (q.1 : Nat))))])
          (fun _ => Hp.nil) (fun q => q.1 ≤ c.length ∧ q.2.size ≤ 1 + 11 * q.1 ∧ (c.drop q.1).foldl rgStep q.2 = F) (fun q => c.length - q.1) (0, ⟨#[91]⟩) ⟨by simp, by decide, hF⟩ (wk_none ?_) ?_
        · simp only [wk, ↓reduceIte, Nat.reduceEqDiff, reduceCtorEq, Nat.reduceLT]
          simp
        rintro ⟨i, out⟩ ⟨hi, hsz, hE⟩
        simp only at hi hsz hE
        simp only [oo, on, og, om, ol, oh, zN, ci, r35_l0]
        simp -implicitDefEqProofs only [ev, ↓reduceIte, Nat.reduceAdd, Nat.reduceEqDiff, Nat.reduceLeDiff, reduceCtorEq]
        refine .mk fun hb => ?_
        simp -implicitDefEqProofs only [ev, ↓reduceIte, Nat.reduceAdd, Nat.reduceEqDiff, Nat.reduceLeDiff, reduceCtorEq]
        refine .mk (fun h => ?_) (fun h => ?_)
        · have hlt : i < c.length := by simpa using h
          have hx := List.getElem?_eq_getElem hlt
          have hm := List.getElem_mem hlt
          rw [List.drop_eq_getElem_cons hlt, List.foldl_cons] at hE
          generalize c[i] = r at hx hm hE
          have k1 := hc.lo r hm
          have k2 := hc.hi r hm
          cases r with
          | mk lo1 hi1 =>
          have s1 := escB_size lo1 inClsB
          have s2 := escB_size hi1 inClsB
          have e45 : (⟨#[45]⟩ : ByteArray).size = 1 := rfl
          have hst := rgStep_size out ⟨lo1, hi1⟩
          have hw : IntKind.i64.wrap ((i : Int) + 1) = ((i + 1 : Nat) : Int) := wrap64 (by omega) (by omega)
          simp -implicitDefEqProofs only [ev, ↓reduceIte, Nat.reduceAdd, Nat.reduceEqDiff, Nat.reduceLeDiff, reduceCtorEq, List.getElem?_map, hx, Rg.cells, Int.natCast_nonneg]
          refine acall_ret (f61_ok lo1 k1) ?_
          simp -implicitDefEqProofs only [ev, ↓reduceIte, Nat.reduceAdd, Nat.reduceEqDiff, Nat.reduceLeDiff, reduceCtorEq, List.getElem?_map, hx, Rg.cells, Int.natCast_nonneg]
          refine ⟨by omega, ?_⟩
          refine .mk (fun h5 => ?_) (fun h5 => ?_)
          · simp -implicitDefEqProofs only [ev, ↓reduceIte, Nat.reduceAdd, Nat.reduceEqDiff, Nat.reduceLeDiff, reduceCtorEq, List.getElem?_map, hx, Rg.cells, Int.natCast_nonneg]
            refine ⟨by simp only [ByteArray.size_append]; omega, ?_⟩
            refine acall_ret (f61_ok hi1 k2) ?_
            simp -implicitDefEqProofs only [ev, ↓reduceIte, Nat.reduceAdd, Nat.reduceEqDiff, Nat.reduceLeDiff, reduceCtorEq]
            refine ⟨by simp only [ByteArray.size_append]; omega, (i + 1, rgStep out ⟨lo1, hi1⟩), ⟨by simp only; omega, by simp only; omega, hE⟩, by simp only; omega, wk_none ?_⟩
            have hs : rgStep out ⟨lo1, hi1⟩ = out ++ escB lo1 inClsB ++ ⟨#[45]⟩ ++ escB hi1 inClsB := by
              have : (hi1 == lo1) = false := by rw [beq_eq_false_iff_ne]; simpa using h5
              simp only [rgStep, this, Bool.false_eq_true, if_false]
              rw [ByteArray.append_assoc, ByteArray.append_assoc, ByteArray.append_assoc]
              rfl
            rw [hw, hs]
            simp only [wk, ↓reduceIte, Nat.reduceEqDiff, reduceCtorEq, Nat.reduceLT]
          · simp -implicitDefEqProofs only [ev, ↓reduceIte, Nat.reduceAdd, Nat.reduceEqDiff, Nat.reduceLeDiff, reduceCtorEq]
            refine ⟨(i + 1, rgStep out ⟨lo1, hi1⟩), ⟨by simp only; omega, by simp only; omega, hE⟩, by simp only; omega, wk_none ?_⟩
            have hs : rgStep out ⟨lo1, hi1⟩ = out ++ escB lo1 inClsB := by
              have : (hi1 == lo1) = true := by rw [beq_iff_eq]; simpa using h5
              simp only [rgStep, this, if_true]
              rfl
            rw [hw, hs]
            simp only [wk, ↓reduceIte, Nat.reduceEqDiff, reduceCtorEq, Nat.reduceLT]
        · simp -implicitDefEqProofs only [ev, ↓reduceIte, Nat.reduceAdd, Nat.reduceEqDiff, Nat.reduceLeDiff, reduceCtorEq]
          have e1 : c.drop i = [] := List.drop_eq_nil_of_le (by have := of_decide_eq_false h; omega)
          rw [e1, List.foldl_nil] at hE
          have e93 : (⟨#[93]⟩ : ByteArray).size = 1 := rfl
          refine ⟨by omega, fin_same (.one (by simp)) ⟨by rw [hRR, hE], rfl⟩⟩
end Go.Av

namespace Go.Av
open Go.RowKit

/-! ### putting, as the document says it -/
def wq (k kk : Int) : Bool := k == 6 && kk == 7 || k == 8 && (kk == 0 || decide (kk ≥ 6) && decide (kk ≤ 8))
def refT (k : Int) (i : Nat) (y : Nd) : ByteArray := if k == 7 && decide ((i : Int) > 0) then ⟨#[124]⟩ ++ wrapB (wq k y.kind) (putB y) else wrapB (wq k y.kind) (putB y)
def refL (k : Int) : Nat → ByteArray → List Nd → ByteArray
  | _, s, [] => s
  | i, s, y :: r => refL k (i + 1) (s ++ refT k i y) r

theorem fold_shift (sep : ByteArray) : ∀ (r : List ByteArray) (a s : ByteArray), r.foldl (fun s t => s ++ (sep ++ t)) (a ++ s) = a ++ r.foldl (fun s t => s ++ (sep ++ t)) s
  | [], a, s => rfl
  | t :: r, a, s => by
    simp only [List.foldl_cons]
    rw [ByteArray.append_assoc, fold_shift sep r a]
theorem joinB_fold (sep : ByteArray) : ∀ (r : List ByteArray) (x : ByteArray), joinB (x :: r) sep = r.foldl (fun s t => s ++ (sep ++ t)) x
  | [], x => joinB_one x sep
  | y :: r, x => by
    rw [joinB_cons, joinB_fold sep r y, List.foldl_cons, ← fold_shift, ByteArray.append_assoc]
theorem empty_app (s : ByteArray) : (⟨#[]⟩ : ByteArray) ++ s = s := ByteArray.empty_append
theorem joinB_flat (r : List ByteArray) : joinB r ⟨#[]⟩ = r.foldl (fun s t => s ++ t) ⟨#[]⟩ := by
  cases r with
  | nil => rfl
  | cons x r =>
    rw [joinB_fold]
    simp only [empty_app, List.foldl_cons]
theorem refL_flat (k : Int) (hk : (k == 7) = false) : ∀ (l : List Nd) (i : Nat) (s : ByteArray), refL k i s l = (l.map fun y => wrapB (wq k y.kind) (putB y)).foldl (fun s t => s ++ t) s
  | [], i, s => rfl
  | y :: r, i, s => by
    rw [refL, refL_flat k hk r, List.map_cons, List.foldl_cons, refT, hk, Bool.false_and, if_neg (by decide)]
theorem wq7 (kk : Int) : wq 7 kk = false := rfl
theorem refL_alt : ∀ (l : List Nd) (i : Nat) (s : ByteArray), refL 7 (i + 1) s l = (l.map putB).foldl (fun s t => s ++ ((⟨#[124]⟩ : ByteArray) ++ t)) s
  | [], i, s => rfl
  | y :: r, i, s => by
    have : decide (((i + 1 : Nat) : Int) > 0) = true := by simp
    rw [refL, refL_alt r, List.map_cons, List.foldl_cons, refT, this, wq7]
    rfl
theorem ref_cat (ks : List Nd) : refL 6 0 ⟨#[]⟩ ks = putB (.mk 6 [] 0 0 false 0 ks) := by
  have e : putB (.mk 6 [] 0 0 false 0 ks) = joinB (putKs [7] ks) ⟨#[]⟩ := by rw [putB]; rfl
  rw [e, putKs_eq, joinB_flat, refL_flat 6 rfl]
  congr 2
theorem ref_alt (ks : List Nd) (h : ks ≠ []) : refL 7 0 ⟨#[]⟩ ks = putB (.mk 7 [] 0 0 false 0 ks) := by
  have e : putB (.mk 7 [] 0 0 false 0 ks) = joinB (putKs [] ks) ⟨#[124]⟩ := by rw [putB]; rfl
  rw [e, putKs_eq]
  cases ks with
  | nil => exact absurd rfl h
  | cons y r =>
    rw [List.map_cons, joinB_fold, refL, refL_alt r]
    have : (r.map fun x => wrapB (([] : List Int).contains x.kind) (putB x)) = r.map putB := rfl
    rw [this, empty_app]
    rfl
theorem ref_rep (a b : Int) (z : Bool) (x : Nd) : refL 8 0 ⟨#[]⟩ [x] ++ timesB a b z = putB (repN a b z x) := by
  have e : putB (repN a b z x) = joinB (putKs [0, 6, 7, 8] [x]) ⟨#[]⟩ ++ timesB a b z := by rw [repN, putB]; rfl
  rw [e, putKs_eq, joinB_flat, refL_flat 8 rfl]
  congr 3
  funext y
  congr 1
  rw [Bool.eq_iff_iff]
  simp [wq]
  omega
theorem ref_group (m : Int) (x : Nd) : (⟨#[40]⟩ ++ refL 9 0 ⟨#[]⟩ [x]) ++ ⟨#[41]⟩ = putB (groupN m x) := by
  have e : putB (groupN m x) = (⟨#[40]⟩ ++ joinB (putKs [] [x]) ⟨#[]⟩) ++ ⟨#[41]⟩ := by rw [groupN, putB]; rfl
  rw [e, putKs_eq, joinB_flat, refL_flat 9 rfl]
  rfl
end Go.Av

namespace Go.Av
open Go.RowKit Go.Proofs.Tryz

set_option maxHeartbeats 2000000 in
theorem f14_step (n : Nat) (ih : ∀ (x : Nd), x.size < n → Ok x → x.size ≤ 1000000 → Ret prog 14 [.agg (x.cells.map .iv)] (.one (sct (.string (putB x))))) (x : Nd) (hn : x.size ≤ n) (hok : Ok x) (hb : x.size ≤ 1000000) :
    Ret prog 14 [.agg (x.cells.map .iv)] (.one (sct (.string (putB x)))) := by
  have hpo := ok_put hok
  cases hok with
  | one c h =>
    refine .of r14_ok (by simp [oneN, Nd.cells, clsIV]) (.one (by simp)) (by simp [r14]) ?_
    simp only [oo, on, og, om, ol, oh, zN, ci, r14, initTm, Nat.reduceAdd, oneN, Nd.cells, ndRows_eq, List.map_cons, List.map_nil]
    have k1 : ((1 : Int) == 1) = true := rfl
    simp -implicitDefEqProofs only [ev, ↓reduceIte, Nat.reduceAdd, Nat.reduceEqDiff, Nat.reduceLeDiff, reduceCtorEq, k1]
    refine acall_ret (f35_ok c h) ?_
    simp -implicitDefEqProofs only [ev, ↓reduceIte, Nat.reduceAdd, Nat.reduceEqDiff, Nat.reduceLeDiff, reduceCtorEq]
    exact fin_same (.one (by simp)) ⟨by rw [show putB (.mk 1 c 0 0 false 0 []) = putClassB c by rw [putB]; rfl], rfl⟩
  | plain k h =>
    refine .of r14_ok (by simp [plainN, Nd.cells, clsIV]) (.one (by simp)) (by simp [r14]) ?_
    simp only [oo, on, og, om, ol, oh, zN, ci, r14, initTm, Nat.reduceAdd, plainN, Nd.cells, ndRows_eq, List.map_cons, List.map_nil]
    rcases h with rfl | rfl | rfl | rfl
    · have k1 : ((2 : Int) == 1) = false := rfl
      have k2 : ((2 : Int) == 2) = true := rfl
      simp -implicitDefEqProofs only [ev, ↓reduceIte, Nat.reduceAdd, Nat.reduceEqDiff, Nat.reduceLeDiff, reduceCtorEq, k1, k2]
      exact fin_same (.one (by simp)) ⟨by rw [putB]; rfl, rfl⟩
    · have k1 : ((3 : Int) == 1) = false := rfl
      have k2 : ((3 : Int) == 2) = false := rfl
      have k3 : ((3 : Int) == 3) = true := rfl
      simp -implicitDefEqProofs only [ev, ↓reduceIte, Nat.reduceAdd, Nat.reduceEqDiff, Nat.reduceLeDiff, reduceCtorEq, k1, k2, k3]
      exact fin_same (.one (by simp)) ⟨by rw [putB]; rfl, rfl⟩
    · have k1 : ((4 : Int) == 1) = false := rfl
      have k2 : ((4 : Int) == 2) = false := rfl
      have k3 : ((4 : Int) == 3) = false := rfl
      have k4 : ((4 : Int) == 4) = true := rfl
      simp -implicitDefEqProofs only [ev, ↓reduceIte, Nat.reduceAdd, Nat.reduceEqDiff, Nat.reduceLeDiff, reduceCtorEq, k1, k2, k3, k4]
      exact fin_same (.one (by simp)) ⟨by rw [putB]; rfl, rfl⟩
    · have k1 : ((5 : Int) == 1) = false := rfl
      have k2 : ((5 : Int) == 2) = false := rfl
      have k3 : ((5 : Int) == 3) = false := rfl
      have k4 : ((5 : Int) == 4) = false := rfl
      have k5 : ((5 : Int) == 5) = true := rfl
      simp -implicitDefEqProofs only [ev, ↓reduceIte, Nat.reduceAdd, Nat.reduceEqDiff, Nat.reduceLeDiff, reduceCtorEq, k1, k2, k3, k4, k5]
      exact fin_same (.one (by simp)) ⟨by rw [putB]; rfl, rfl⟩
  | empty =>
    refine .of r14_ok (by simp [emptyN, Nd.cells, clsIV]) (.one (by simp)) (by simp [r14]) ?_
    simp only [oo, on, og, om, ol, oh, zN, ci, r14, initTm, Nat.reduceAdd, emptyN, Nd.cells, ndRows_eq, List.map_cons, List.map_nil]
    generalize hR : putB (.mk 0 [] 0 0 false 0 []) = R
    have hRe : R = ⟨#[]⟩ := by rw [← hR, putB]; rfl
    have k1 : ((0 : Int) == 1) = false := rfl
    have k2 : ((0 : Int) == 2) = false := rfl
    have k3 : ((0 : Int) == 3) = false := rfl
    have k4 : ((0 : Int) == 4) = false := rfl
    have k5 : ((0 : Int) == 5) = false := rfl
    have k6 : ((0 : Int) == 6) = false := rfl
    have k7 : ((0 : Int) == 7) = false := rfl
    have k8 : ((0 : Int) == 8) = false := rfl
    have k9 : ((0 : Int) == 9) = false := rfl
    simp -implicitDefEqProofs only [ev, ↓reduceIte, Nat.reduceAdd, Nat.reduceEqDiff, Nat.reduceLeDiff, reduceCtorEq, k1, k2, k3, k4, k5, k6, k7, k8, k9, awp_loop]
    refine aloop_mk (σ := Unit) (fun _ => [(1, .one (.ip [.sc (.int .i64 0), clsIV [], .sc (.int .i64 0), .sc (.int .i64 0), .sc (.bool false), .sc (.int .i64 0), .sl 7 []] 0)), (3, .one (sct (.string ⟨#[]⟩))), (4, .one (sct (.int .i64 0)))]) (fun _ => Hp.nil) (fun _ => True) (fun _ => 0) () trivial (wk_none ?_) ?_
    · simp only [wk, ↓reduceIte, Nat.reduceEqDiff, reduceCtorEq, Nat.reduceLT]
      try simp
    intro _ _
    simp only [oo, on, og, om, ol, oh, zN, ci, r14_l0]
    have h0 : decide ((0 : Int) < ((0 : Nat) : Int)) = false := rfl
    simp -implicitDefEqProofs only [ev, ↓reduceIte, Nat.reduceAdd, Nat.reduceEqDiff, Nat.reduceLeDiff, reduceCtorEq, List.length_nil, h0, k1, k2, k3, k4, k5, k6, k7, k8, k9]
    exact fin_same (.one (by simp)) ⟨by rw [hRe], rfl⟩
  | cat ks hl h hk =>
    have hkids : ∀ y ∈ ks, Ret prog 14 [.agg (y.cells.map .iv)] (.one (sct (.string (putB y)))) := fun y hy => by
      have := ndSize_mem hy
      simp only [Nd.size] at hn hb
      exact ih y (by omega) (h y hy) (by omega)
    have hpos : PutOks ks := hpo.2.2.2.2.2
    simp only [Nd.size] at hn hb
    refine .of r14_ok (by simp [Nd.cells, clsIV]) (.one (by simp)) (by simp [r14]) ?_
    simp only [oo, on, og, om, ol, oh, zN, ci, r14, initTm, Nat.reduceAdd, Nd.cells, ndRows_eq, List.map_cons, List.map_nil]
    obtain ⟨F, hF⟩ : ∃ F, refL 6 0 ⟨#[]⟩ ks = F := ⟨_, rfl⟩
    rw [← ref_cat, hF]
    have k1 : ((6 : Int) == 1) = false := rfl
    have k2 : ((6 : Int) == 2) = false := rfl
    have k3 : ((6 : Int) == 3) = false := rfl
    have k4 : ((6 : Int) == 4) = false := rfl
    have k5 : ((6 : Int) == 5) = false := rfl
    have k6 : ((6 : Int) == 6) = true := rfl
    have k7 : ((6 : Int) == 7) = false := rfl
    have k8 : ((6 : Int) == 8) = false := rfl
    have k9 : ((6 : Int) == 9) = false := rfl
    simp -implicitDefEqProofs only [ev, ↓reduceIte, Nat.reduceAdd, Nat.reduceEqDiff, Nat.reduceLeDiff, reduceCtorEq, k1, k2, k3, k4, k5, k6, k7, k8, k9, awp_loop]
    refine aloop_mk (σ := Nat × ByteArray) (fun q => [(1, .one (.ip [.sc (.int .i64 6), clsIV [], .sc (.int .i64 0), .sc (.int .i64 0), .sc (.bool false), .sc (.int .i64 0), .sl 7 (ks.map Nd.cells)] 0)), (3, .one (sct (.string q.2))), (4, .one (sct (.int .i64 (q.1 : Nat))))])
      (fun _ => Hp.nil) (fun q => q.1 ≤ ks.length ∧ q.2.size ≤ 50000000 * ndSize (ks.take q.1) ∧ refL 6 q.1 q.2 (ks.drop q.1) = F) (fun q => ks.length - q.1) (0, ⟨#[]⟩) ⟨by simp, Nat.zero_le _, by simpa using hF⟩ (wk_none ?_) ?_
    · simp only [wk, ↓reduceIte, Nat.reduceEqDiff, reduceCtorEq, Nat.reduceLT]
      try simp
    rintro ⟨i, out⟩ ⟨hi, hsz, hE⟩
    simp only at hi hsz hE
    simp only [oo, on, og, om, ol, oh, zN, ci, r14_l0]
    simp -implicitDefEqProofs only [ev, ↓reduceIte, Nat.reduceAdd, Nat.reduceEqDiff, Nat.reduceLeDiff, reduceCtorEq]
    refine .mk fun hb1 => ?_
    simp -implicitDefEqProofs only [ev, ↓reduceIte, Nat.reduceAdd, Nat.reduceEqDiff, Nat.reduceLeDiff, reduceCtorEq]
    refine .mk (fun h => ?_) (fun h => ?_)
    · have hlt : i < ks.length := by simpa using h
      have hx := List.getElem?_eq_getElem hlt
      have hm := List.getElem_mem hlt
      have hsum := ndSize_succ hlt
      have hle := ndSize_take ks (i + 1)
      rw [List.drop_eq_getElem_cons hlt, refL] at hE
      have hr := hkids _ hm
      have hpy := putB_size _ (hpos.get hm)
      generalize ks[i] = y at hx hm hE hr hpy hsum
      have hTe : refT 6 i y = refT 6 i y := rfl
      generalize hT : refT 6 i y = T at hE
      have hy1 : 1 ≤ y.size := by cases y; simp [Nd.size]
      obtain ⟨B, hB⟩ : ∃ B, putB y = B := ⟨_, rfl⟩
      rw [hB] at hr hpy
      have e3 : (⟨#[40, 63, 58]⟩ : ByteArray).size = 3 := rfl
      have e1 : (⟨#[41]⟩ : ByteArray).size = 1 := rfl
      have e2 : (⟨#[124]⟩ : ByteArray).size = 1 := rfl
      have hw : IntKind.i64.wrap ((i : Int) + 1) = ((i + 1 : Nat) : Int) := wrap64 (by omega) (by omega)
      cases y with
      | mk ky cy ay by_ zy my ksy =>
      simp only [Nd.cells, ndRows_eq, List.map_cons, List.map_nil] at hr
      simp -implicitDefEqProofs only [ev, ↓reduceIte, Nat.reduceAdd, Nat.reduceEqDiff, Nat.reduceLeDiff, reduceCtorEq, List.getElem?_map, hx, Nd.cells, ndRows_eq, Int.natCast_nonneg]
      refine acall_ret hr ?_
      simp -implicitDefEqProofs only [ev, ↓reduceIte, Nat.reduceAdd, Nat.reduceEqDiff, Nat.reduceLeDiff, reduceCtorEq, k1, k2, k3, k4, k5, k6, k7, k8, k9]
      refine .mk (fun q1 => ?_) (fun q1 => ?_)
      · simp -implicitDefEqProofs only [ev, ↓reduceIte, Nat.reduceAdd, Nat.reduceEqDiff, Nat.reduceLeDiff, reduceCtorEq, k1, k2, k3, k4, k5, k6, k7, k8, k9, q1]
        have hTe : T = (⟨#[40, 63, 58]⟩ ++ B) ++ ⟨#[41]⟩ := by
          rw [← hT, ← hB]
          first | (show wrapB (ky == 0 || (decide (ky ≥ 6) && decide (ky ≤ 8))) _ = _; simp only [wrapB, Nd.kind, q1, k1, k2, k3, k4, k5, k6, k7, k8, k9, Bool.true_and, Bool.and_true, Bool.and_self, Bool.false_and, Bool.and_false, Bool.or_false, Bool.false_or, Bool.true_or, Bool.or_true, Bool.or_self, if_true, if_false, Bool.false_eq_true]; done) | (simp only [refT, wq, wrapB, Nd.kind, q1, k1, k2, k3, k4, k5, k6, k7, k8, k9, Bool.true_and, Bool.and_true, Bool.and_self, Bool.false_and, Bool.and_false, Bool.or_false, Bool.false_or, Bool.true_or, Bool.or_true, Bool.or_self, if_true, if_false, Bool.false_eq_true]; done)
        have hTz : ((⟨#[40, 63, 58]⟩ ++ B) ++ ⟨#[41]⟩).size ≤ B.size + 5 := by
          (try simp only [ByteArray.size_append]); omega
        rw [hTe] at hE
        rw [hw]
        refine ⟨by omega, by (try simp only [ByteArray.size_append]); omega, ?_⟩; refine ⟨by (try simp only [ByteArray.size_append]); omega, (i + 1, out ++ ((⟨#[40, 63, 58]⟩ ++ B) ++ ⟨#[41]⟩)), ⟨by simp only; omega, by show (out ++ ((⟨#[40, 63, 58]⟩ ++ B) ++ ⟨#[41]⟩)).size ≤ 50000000 * ndSize (ks.take (i + 1)); rw [ByteArray.size_append]; omega, hE⟩, by simp only; omega, wk_none ?_⟩
        simp only [wk, ↓reduceIte, Nat.reduceEqDiff, reduceCtorEq, Nat.reduceLT]
        try simp
      · simp -implicitDefEqProofs only [ev, ↓reduceIte, Nat.reduceAdd, Nat.reduceEqDiff, Nat.reduceLeDiff, reduceCtorEq, k1, k2, k3, k4, k5, k6, k7, k8, k9, q1]
        have hTe : T = B := by
          rw [← hT, ← hB]
          first | (show wrapB (ky == 0 || (decide (ky ≥ 6) && decide (ky ≤ 8))) _ = _; simp only [wrapB, Nd.kind, q1, k1, k2, k3, k4, k5, k6, k7, k8, k9, Bool.true_and, Bool.and_true, Bool.and_self, Bool.false_and, Bool.and_false, Bool.or_false, Bool.false_or, Bool.true_or, Bool.or_true, Bool.or_self, if_true, if_false, Bool.false_eq_true]; done) | (simp only [refT, wq, wrapB, Nd.kind, q1, k1, k2, k3, k4, k5, k6, k7, k8, k9, Bool.true_and, Bool.and_true, Bool.and_self, Bool.false_and, Bool.and_false, Bool.or_false, Bool.false_or, Bool.true_or, Bool.or_true, Bool.or_self, if_true, if_false, Bool.false_eq_true]; done)
        have hTz : (B).size ≤ B.size + 5 := by
          (try simp only [ByteArray.size_append]); omega
        rw [hTe] at hE
        rw [hw]
        refine id ⟨by (try simp only [ByteArray.size_append]); omega, (i + 1, out ++ (B)), ⟨by simp only; omega, by show (out ++ (B)).size ≤ 50000000 * ndSize (ks.take (i + 1)); rw [ByteArray.size_append]; omega, hE⟩, by simp only; omega, wk_none ?_⟩
        simp only [wk, ↓reduceIte, Nat.reduceEqDiff, reduceCtorEq, Nat.reduceLT]
        try simp
    · have hge : ks.drop i = [] := List.drop_eq_nil_of_le (by have := of_decide_eq_false h; omega)
      rw [hge, refL] at hE
      have hle := ndSize_take ks i
      simp -implicitDefEqProofs only [ev, ↓reduceIte, Nat.reduceAdd, Nat.reduceEqDiff, Nat.reduceLeDiff, reduceCtorEq, k1, k2, k3, k4, k5, k6, k7, k8, k9]
      exact fin_same (.one (by simp)) ⟨by rw [hE], rfl⟩
  | alt ks hl h hk =>
    have hkids : ∀ y ∈ ks, Ret prog 14 [.agg (y.cells.map .iv)] (.one (sct (.string (putB y)))) := fun y hy => by
      have := ndSize_mem hy
      simp only [Nd.size] at hn hb
      exact ih y (by omega) (h y hy) (by omega)
    have hpos : PutOks ks := hpo.2.2.2.2.2
    simp only [Nd.size] at hn hb
    refine .of r14_ok (by simp [Nd.cells, clsIV]) (.one (by simp)) (by simp [r14]) ?_
    simp only [oo, on, og, om, ol, oh, zN, ci, r14, initTm, Nat.reduceAdd, Nd.cells, ndRows_eq, List.map_cons, List.map_nil]
    obtain ⟨F, hF⟩ : ∃ F, refL 7 0 ⟨#[]⟩ ks = F := ⟨_, rfl⟩
    rw [← ref_alt ks (by intro e; rw [e] at hl; simp at hl), hF]
    have k1 : ((7 : Int) == 1) = false := rfl
    have k2 : ((7 : Int) == 2) = false := rfl
    have k3 : ((7 : Int) == 3) = false := rfl
    have k4 : ((7 : Int) == 4) = false := rfl
    have k5 : ((7 : Int) == 5) = false := rfl
    have k6 : ((7 : Int) == 6) = false := rfl
    have k7 : ((7 : Int) == 7) = true := rfl
    have k8 : ((7 : Int) == 8) = false := rfl
    have k9 : ((7 : Int) == 9) = false := rfl
    simp -implicitDefEqProofs only [ev, ↓reduceIte, Nat.reduceAdd, Nat.reduceEqDiff, Nat.reduceLeDiff, reduceCtorEq, k1, k2, k3, k4, k5, k6, k7, k8, k9, awp_loop]
    refine aloop_mk (σ := Nat × ByteArray) (fun q => [(1, .one (.ip [.sc (.int .i64 7), clsIV [], .sc (.int .i64 0), .sc (.int .i64 0), .sc (.bool false), .sc (.int .i64 0), .sl 7 (ks.map Nd.cells)] 0)), (3, .one (sct (.string q.2))), (4, .one (sct (.int .i64 (q.1 : Nat))))])
      (fun _ => Hp.nil) (fun q => q.1 ≤ ks.length ∧ q.2.size ≤ 50000000 * ndSize (ks.take q.1) ∧ refL 7 q.1 q.2 (ks.drop q.1) = F) (fun q => ks.length - q.1) (0, ⟨#[]⟩) ⟨by simp, Nat.zero_le _, by simpa using hF⟩ (wk_none ?_) ?_
    · simp only [wk, ↓reduceIte, Nat.reduceEqDiff, reduceCtorEq, Nat.reduceLT]
      try simp
    rintro ⟨i, out⟩ ⟨hi, hsz, hE⟩
    simp only at hi hsz hE
    simp only [oo, on, og, om, ol, oh, zN, ci, r14_l0]
    simp -implicitDefEqProofs only [ev, ↓reduceIte, Nat.reduceAdd, Nat.reduceEqDiff, Nat.reduceLeDiff, reduceCtorEq]
    refine .mk fun hb1 => ?_
    simp -implicitDefEqProofs only [ev, ↓reduceIte, Nat.reduceAdd, Nat.reduceEqDiff, Nat.reduceLeDiff, reduceCtorEq]
    refine .mk (fun h => ?_) (fun h => ?_)
    · have hlt : i < ks.length := by simpa using h
      have hx := List.getElem?_eq_getElem hlt
      have hm := List.getElem_mem hlt
      have hsum := ndSize_succ hlt
      have hle := ndSize_take ks (i + 1)
      rw [List.drop_eq_getElem_cons hlt, refL] at hE
      have hr := hkids _ hm
      have hpy := putB_size _ (hpos.get hm)
      generalize ks[i] = y at hx hm hE hr hpy hsum
      have hTe : refT 7 i y = refT 7 i y := rfl
      generalize hT : refT 7 i y = T at hE
      have hy1 : 1 ≤ y.size := by cases y; simp [Nd.size]
      obtain ⟨B, hB⟩ : ∃ B, putB y = B := ⟨_, rfl⟩
      rw [hB] at hr hpy
      have e3 : (⟨#[40, 63, 58]⟩ : ByteArray).size = 3 := rfl
      have e1 : (⟨#[41]⟩ : ByteArray).size = 1 := rfl
      have e2 : (⟨#[124]⟩ : ByteArray).size = 1 := rfl
      have hw : IntKind.i64.wrap ((i : Int) + 1) = ((i + 1 : Nat) : Int) := wrap64 (by omega) (by omega)
      cases y with
      | mk ky cy ay by_ zy my ksy =>
      simp only [Nd.cells, ndRows_eq, List.map_cons, List.map_nil] at hr
      simp -implicitDefEqProofs only [ev, ↓reduceIte, Nat.reduceAdd, Nat.reduceEqDiff, Nat.reduceLeDiff, reduceCtorEq, List.getElem?_map, hx, Nd.cells, ndRows_eq, Int.natCast_nonneg]
      refine acall_ret hr ?_
      simp -implicitDefEqProofs only [ev, ↓reduceIte, Nat.reduceAdd, Nat.reduceEqDiff, Nat.reduceLeDiff, reduceCtorEq, k1, k2, k3, k4, k5, k6, k7, k8, k9]
      refine .mk (fun q1 => ?_) (fun q1 => ?_)
      · simp -implicitDefEqProofs only [ev, ↓reduceIte, Nat.reduceAdd, Nat.reduceEqDiff, Nat.reduceLeDiff, reduceCtorEq, k1, k2, k3, k4, k5, k6, k7, k8, k9, q1]
        have hTe : T = ⟨#[124]⟩ ++ B := by
          rw [← hT, ← hB]
          first | (show wrapB (ky == 0 || (decide (ky ≥ 6) && decide (ky ≤ 8))) _ = _; simp only [wrapB, Nd.kind, q1, k1, k2, k3, k4, k5, k6, k7, k8, k9, Bool.true_and, Bool.and_true, Bool.and_self, Bool.false_and, Bool.and_false, Bool.or_false, Bool.false_or, Bool.true_or, Bool.or_true, Bool.or_self, if_true, if_false, Bool.false_eq_true]; done) | (simp only [refT, wq, wrapB, Nd.kind, q1, k1, k2, k3, k4, k5, k6, k7, k8, k9, Bool.true_and, Bool.and_true, Bool.and_self, Bool.false_and, Bool.and_false, Bool.or_false, Bool.false_or, Bool.true_or, Bool.or_true, Bool.or_self, if_true, if_false, Bool.false_eq_true]; done)
        have hTz : (⟨#[124]⟩ ++ B).size ≤ B.size + 5 := by
          (try simp only [ByteArray.size_append]); omega
        rw [hTe] at hE
        rw [hw]
        refine ⟨by omega, ?_⟩; refine ⟨by (try simp only [ByteArray.size_append]); omega, (i + 1, out ++ (⟨#[124]⟩ ++ B)), ⟨by simp only; omega, by show (out ++ (⟨#[124]⟩ ++ B)).size ≤ 50000000 * ndSize (ks.take (i + 1)); rw [ByteArray.size_append]; omega, hE⟩, by simp only; omega, wk_none ?_⟩
        simp only [wk, ↓reduceIte, Nat.reduceEqDiff, reduceCtorEq, Nat.reduceLT]
        try simp
      · simp -implicitDefEqProofs only [ev, ↓reduceIte, Nat.reduceAdd, Nat.reduceEqDiff, Nat.reduceLeDiff, reduceCtorEq, k1, k2, k3, k4, k5, k6, k7, k8, k9, q1]
        have hTe : T = B := by
          rw [← hT, ← hB]
          first | (show wrapB (ky == 0 || (decide (ky ≥ 6) && decide (ky ≤ 8))) _ = _; simp only [wrapB, Nd.kind, q1, k1, k2, k3, k4, k5, k6, k7, k8, k9, Bool.true_and, Bool.and_true, Bool.and_self, Bool.false_and, Bool.and_false, Bool.or_false, Bool.false_or, Bool.true_or, Bool.or_true, Bool.or_self, if_true, if_false, Bool.false_eq_true]; done) | (simp only [refT, wq, wrapB, Nd.kind, q1, k1, k2, k3, k4, k5, k6, k7, k8, k9, Bool.true_and, Bool.and_true, Bool.and_self, Bool.false_and, Bool.and_false, Bool.or_false, Bool.false_or, Bool.true_or, Bool.or_true, Bool.or_self, if_true, if_false, Bool.false_eq_true]; done)
        have hTz : (B).size ≤ B.size + 5 := by
          (try simp only [ByteArray.size_append]); omega
        rw [hTe] at hE
        rw [hw]
        refine id ⟨by (try simp only [ByteArray.size_append]); omega, (i + 1, out ++ (B)), ⟨by simp only; omega, by show (out ++ (B)).size ≤ 50000000 * ndSize (ks.take (i + 1)); rw [ByteArray.size_append]; omega, hE⟩, by simp only; omega, wk_none ?_⟩
        simp only [wk, ↓reduceIte, Nat.reduceEqDiff, reduceCtorEq, Nat.reduceLT]
        try simp
    · have hge : ks.drop i = [] := List.drop_eq_nil_of_le (by have := of_decide_eq_false h; omega)
      rw [hge, refL] at hE
      have hle := ndSize_take ks i
      simp -implicitDefEqProofs only [ev, ↓reduceIte, Nat.reduceAdd, Nat.reduceEqDiff, Nat.reduceLeDiff, reduceCtorEq, k1, k2, k3, k4, k5, k6, k7, k8, k9]
      exact fin_same (.one (by simp)) ⟨by rw [hE], rfl⟩
  | rep a b z x h0 h1 hb2 h =>
    have hti := f36_ok 8 [] a b z 0 [x] h0 (by omega) (by omega) (by omega)
    have hts := timesB_size a b z
    obtain ⟨ks, hks⟩ : ∃ ks, ks = [x] := ⟨_, rfl⟩
    have hkids : ∀ y ∈ ks, Ret prog 14 [.agg (y.cells.map .iv)] (.one (sct (.string (putB y)))) := fun y hy => by
      rw [hks] at hy
      simp only [List.mem_singleton] at hy
      subst hy
      simp only [repN, Nd.size, ndSize] at hn hb
      exact ih y (by omega) h (by omega)
    have hRes := ref_rep a b z x
    obtain ⟨R, hR⟩ : ∃ R, putB (repN a b z x) = R := ⟨_, rfl⟩
    rw [hR] at hRes
    rw [hR]
    have e : repN a b z x = .mk 8 [] a b z 0 ks := by rw [hks]; rfl
    rw [← hks] at hti hRes
    rw [e] at hpo hn hb
    rw [e]
    have hpos : PutOks ks := hpo.2.2.2.2.2
    simp only [Nd.size] at hn hb
    refine .of r14_ok (by simp [Nd.cells, clsIV]) (.one (by simp)) (by simp [r14]) ?_
    simp only [oo, on, og, om, ol, oh, zN, ci, r14, initTm, Nat.reduceAdd, Nd.cells, ndRows_eq, List.map_cons, List.map_nil]
    simp only [Nd.cells, ndRows_eq, List.map_cons, List.map_nil] at hti
    obtain ⟨F, hF⟩ : ∃ F, refL 8 0 ⟨#[]⟩ ks = F := ⟨_, rfl⟩
    rw [hF] at hRes
    clear hks e
    have k1 : ((8 : Int) == 1) = false := rfl
    have k2 : ((8 : Int) == 2) = false := rfl
    have k3 : ((8 : Int) == 3) = false := rfl
    have k4 : ((8 : Int) == 4) = false := rfl
    have k5 : ((8 : Int) == 5) = false := rfl
    have k6 : ((8 : Int) == 6) = false := rfl
    have k7 : ((8 : Int) == 7) = false := rfl
    have k8 : ((8 : Int) == 8) = true := rfl
    have k9 : ((8 : Int) == 9) = false := rfl
    simp -implicitDefEqProofs only [ev, ↓reduceIte, Nat.reduceAdd, Nat.reduceEqDiff, Nat.reduceLeDiff, reduceCtorEq, k1, k2, k3, k4, k5, k6, k7, k8, k9, awp_loop]
    refine aloop_mk (σ := Nat × ByteArray) (fun q => [(1, .one (.ip [.sc (.int .i64 8), clsIV [], .sc (.int .i64 a), .sc (.int .i64 b), .sc (.bool z), .sc (.int .i64 0), .sl 7 (ks.map Nd.cells)] 0)), (3, .one (sct (.string q.2))), (4, .one (sct (.int .i64 (q.1 : Nat))))])
      (fun _ => Hp.nil) (fun q => q.1 ≤ ks.length ∧ q.2.size ≤ 50000000 * ndSize (ks.take q.1) ∧ refL 8 q.1 q.2 (ks.drop q.1) = F) (fun q => ks.length - q.1) (0, ⟨#[]⟩) ⟨by simp, Nat.zero_le _, by simpa using hF⟩ (wk_none ?_) ?_
    · simp only [wk, ↓reduceIte, Nat.reduceEqDiff, reduceCtorEq, Nat.reduceLT]
      try simp
    rintro ⟨i, out⟩ ⟨hi, hsz, hE⟩
    simp only at hi hsz hE
    simp only [oo, on, og, om, ol, oh, zN, ci, r14_l0]
    simp -implicitDefEqProofs only [ev, ↓reduceIte, Nat.reduceAdd, Nat.reduceEqDiff, Nat.reduceLeDiff, reduceCtorEq]
    refine .mk fun hb1 => ?_
    simp -implicitDefEqProofs only [ev, ↓reduceIte, Nat.reduceAdd, Nat.reduceEqDiff, Nat.reduceLeDiff, reduceCtorEq]
    refine .mk (fun h => ?_) (fun h => ?_)
    · have hlt : i < ks.length := by simpa using h
      have hx := List.getElem?_eq_getElem hlt
      have hm := List.getElem_mem hlt
      have hsum := ndSize_succ hlt
      have hle := ndSize_take ks (i + 1)
      rw [List.drop_eq_getElem_cons hlt, refL] at hE
      have hr := hkids _ hm
      have hpy := putB_size _ (hpos.get hm)
      generalize ks[i] = y at hx hm hE hr hpy hsum
      have hTe : refT 8 i y = refT 8 i y := rfl
      generalize hT : refT 8 i y = T at hE
      have hy1 : 1 ≤ y.size := by cases y; simp [Nd.size]
      obtain ⟨B, hB⟩ : ∃ B, putB y = B := ⟨_, rfl⟩
      rw [hB] at hr hpy
      have e3 : (⟨#[40, 63, 58]⟩ : ByteArray).size = 3 := rfl
      have e1 : (⟨#[41]⟩ : ByteArray).size = 1 := rfl
      have e2 : (⟨#[124]⟩ : ByteArray).size = 1 := rfl
      have hw : IntKind.i64.wrap ((i : Int) + 1) = ((i + 1 : Nat) : Int) := wrap64 (by omega) (by omega)
      cases y with
      | mk ky cy ay by_ zy my ksy =>
      simp only [Nd.cells, ndRows_eq, List.map_cons, List.map_nil] at hr
      simp -implicitDefEqProofs only [ev, ↓reduceIte, Nat.reduceAdd, Nat.reduceEqDiff, Nat.reduceLeDiff, reduceCtorEq, List.getElem?_map, hx, Nd.cells, ndRows_eq, Int.natCast_nonneg]
      refine acall_ret hr ?_
      simp -implicitDefEqProofs only [ev, ↓reduceIte, Nat.reduceAdd, Nat.reduceEqDiff, Nat.reduceLeDiff, reduceCtorEq, k1, k2, k3, k4, k5, k6, k7, k8, k9]
      refine .mk (fun q1 => ?_) (fun q1 => ?_)
      · simp -implicitDefEqProofs only [ev, ↓reduceIte, Nat.reduceAdd, Nat.reduceEqDiff, Nat.reduceLeDiff, reduceCtorEq, k1, k2, k3, k4, k5, k6, k7, k8, k9, q1]
        have hTe : T = (⟨#[40, 63, 58]⟩ ++ B) ++ ⟨#[41]⟩ := by
          rw [← hT, ← hB]
          first | (show wrapB (ky == 0 || (decide (ky ≥ 6) && decide (ky ≤ 8))) _ = _; simp only [wrapB, Nd.kind, q1, k1, k2, k3, k4, k5, k6, k7, k8, k9, Bool.true_and, Bool.and_true, Bool.and_self, Bool.false_and, Bool.and_false, Bool.or_false, Bool.false_or, Bool.true_or, Bool.or_true, Bool.or_self, if_true, if_false, Bool.false_eq_true]; done) | (simp only [refT, wq, wrapB, Nd.kind, q1, k1, k2, k3, k4, k5, k6, k7, k8, k9, Bool.true_and, Bool.and_true, Bool.and_self, Bool.false_and, Bool.and_false, Bool.or_false, Bool.false_or, Bool.true_or, Bool.or_true, Bool.or_self, if_true, if_false, Bool.false_eq_true]; done)
        have hTz : ((⟨#[40, 63, 58]⟩ ++ B) ++ ⟨#[41]⟩).size ≤ B.size + 5 := by
          (try simp only [ByteArray.size_append]); omega
        rw [hTe] at hE
        rw [hw]
        refine ⟨by omega, by (try simp only [ByteArray.size_append]); omega, ?_⟩; refine ⟨by (try simp only [ByteArray.size_append]); omega, (i + 1, out ++ ((⟨#[40, 63, 58]⟩ ++ B) ++ ⟨#[41]⟩)), ⟨by simp only; omega, by show (out ++ ((⟨#[40, 63, 58]⟩ ++ B) ++ ⟨#[41]⟩)).size ≤ 50000000 * ndSize (ks.take (i + 1)); rw [ByteArray.size_append]; omega, hE⟩, by simp only; omega, wk_none ?_⟩
        simp only [wk, ↓reduceIte, Nat.reduceEqDiff, reduceCtorEq, Nat.reduceLT]
        try simp
      · simp -implicitDefEqProofs only [ev, ↓reduceIte, Nat.reduceAdd, Nat.reduceEqDiff, Nat.reduceLeDiff, reduceCtorEq, k1, k2, k3, k4, k5, k6, k7, k8, k9, q1]
        refine .mk (fun q2 => ?_) (fun q2 => ?_)
        · simp -implicitDefEqProofs only [ev, ↓reduceIte, Nat.reduceAdd, Nat.reduceEqDiff, Nat.reduceLeDiff, reduceCtorEq, k1, k2, k3, k4, k5, k6, k7, k8, k9, q1, q2]
          refine .mk (fun q3 => ?_) (fun q3 => ?_)
          · simp -implicitDefEqProofs only [ev, ↓reduceIte, Nat.reduceAdd, Nat.reduceEqDiff, Nat.reduceLeDiff, reduceCtorEq, k1, k2, k3, k4, k5, k6, k7, k8, k9, q1, q2, q3]
            have hTe : T = (⟨#[40, 63, 58]⟩ ++ B) ++ ⟨#[41]⟩ := by
              rw [← hT, ← hB]
              first | (show wrapB (ky == 0 || (decide (ky ≥ 6) && decide (ky ≤ 8))) _ = _; simp only [wrapB, Nd.kind, q1, q2, q3, k1, k2, k3, k4, k5, k6, k7, k8, k9, Bool.true_and, Bool.and_true, Bool.and_self, Bool.false_and, Bool.and_false, Bool.or_false, Bool.false_or, Bool.true_or, Bool.or_true, Bool.or_self, if_true, if_false, Bool.false_eq_true]; done) | (simp only [refT, wq, wrapB, Nd.kind, q1, q2, q3, k1, k2, k3, k4, k5, k6, k7, k8, k9, Bool.true_and, Bool.and_true, Bool.and_self, Bool.false_and, Bool.and_false, Bool.or_false, Bool.false_or, Bool.true_or, Bool.or_true, Bool.or_self, if_true, if_false, Bool.false_eq_true]; done)
            have hTz : ((⟨#[40, 63, 58]⟩ ++ B) ++ ⟨#[41]⟩).size ≤ B.size + 5 := by
              (try simp only [ByteArray.size_append]); omega
            rw [hTe] at hE
            rw [hw]
            refine ⟨by omega, by (try simp only [ByteArray.size_append]); omega, ?_⟩; refine ⟨by (try simp only [ByteArray.size_append]); omega, (i + 1, out ++ ((⟨#[40, 63, 58]⟩ ++ B) ++ ⟨#[41]⟩)), ⟨by simp only; omega, by show (out ++ ((⟨#[40, 63, 58]⟩ ++ B) ++ ⟨#[41]⟩)).size ≤ 50000000 * ndSize (ks.take (i + 1)); rw [ByteArray.size_append]; omega, hE⟩, by simp only; omega, wk_none ?_⟩
            simp only [wk, ↓reduceIte, Nat.reduceEqDiff, reduceCtorEq, Nat.reduceLT]
            try simp
          · simp -implicitDefEqProofs only [ev, ↓reduceIte, Nat.reduceAdd, Nat.reduceEqDiff, Nat.reduceLeDiff, reduceCtorEq, k1, k2, k3, k4, k5, k6, k7, k8, k9, q1, q2, q3]
            have hTe : T = B := by
              rw [← hT, ← hB]
              first | (show wrapB (ky == 0 || (decide (ky ≥ 6) && decide (ky ≤ 8))) _ = _; simp only [wrapB, Nd.kind, q1, q2, q3, k1, k2, k3, k4, k5, k6, k7, k8, k9, Bool.true_and, Bool.and_true, Bool.and_self, Bool.false_and, Bool.and_false, Bool.or_false, Bool.false_or, Bool.true_or, Bool.or_true, Bool.or_self, if_true, if_false, Bool.false_eq_true]; done) | (simp only [refT, wq, wrapB, Nd.kind, q1, q2, q3, k1, k2, k3, k4, k5, k6, k7, k8, k9, Bool.true_and, Bool.and_true, Bool.and_self, Bool.false_and, Bool.and_false, Bool.or_false, Bool.false_or, Bool.true_or, Bool.or_true, Bool.or_self, if_true, if_false, Bool.false_eq_true]; done)
            have hTz : (B).size ≤ B.size + 5 := by
              (try simp only [ByteArray.size_append]); omega
            rw [hTe] at hE
            rw [hw]
            refine id ⟨by (try simp only [ByteArray.size_append]); omega, (i + 1, out ++ (B)), ⟨by simp only; omega, by show (out ++ (B)).size ≤ 50000000 * ndSize (ks.take (i + 1)); rw [ByteArray.size_append]; omega, hE⟩, by simp only; omega, wk_none ?_⟩
            simp only [wk, ↓reduceIte, Nat.reduceEqDiff, reduceCtorEq, Nat.reduceLT]
            try simp
        · simp -implicitDefEqProofs only [ev, ↓reduceIte, Nat.reduceAdd, Nat.reduceEqDiff, Nat.reduceLeDiff, reduceCtorEq, k1, k2, k3, k4, k5, k6, k7, k8, k9, q1, q2]
          have hTe : T = B := by
            rw [← hT, ← hB]
            first | (show wrapB (ky == 0 || (decide (ky ≥ 6) && decide (ky ≤ 8))) _ = _; simp only [wrapB, Nd.kind, q1, q2, k1, k2, k3, k4, k5, k6, k7, k8, k9, Bool.true_and, Bool.and_true, Bool.and_self, Bool.false_and, Bool.and_false, Bool.or_false, Bool.false_or, Bool.true_or, Bool.or_true, Bool.or_self, if_true, if_false, Bool.false_eq_true]; done) | (simp only [refT, wq, wrapB, Nd.kind, q1, q2, k1, k2, k3, k4, k5, k6, k7, k8, k9, Bool.true_and, Bool.and_true, Bool.and_self, Bool.false_and, Bool.and_false, Bool.or_false, Bool.false_or, Bool.true_or, Bool.or_true, Bool.or_self, if_true, if_false, Bool.false_eq_true]; done)
          have hTz : (B).size ≤ B.size + 5 := by
            (try simp only [ByteArray.size_append]); omega
          rw [hTe] at hE
          rw [hw]
          refine id ⟨by (try simp only [ByteArray.size_append]); omega, (i + 1, out ++ (B)), ⟨by simp only; omega, by show (out ++ (B)).size ≤ 50000000 * ndSize (ks.take (i + 1)); rw [ByteArray.size_append]; omega, hE⟩, by simp only; omega, wk_none ?_⟩
          simp only [wk, ↓reduceIte, Nat.reduceEqDiff, reduceCtorEq, Nat.reduceLT]
          try simp
    · have hge : ks.drop i = [] := List.drop_eq_nil_of_le (by have := of_decide_eq_false h; omega)
      rw [hge, refL] at hE
      have hle := ndSize_take ks i
      simp -implicitDefEqProofs only [ev, ↓reduceIte, Nat.reduceAdd, Nat.reduceEqDiff, Nat.reduceLeDiff, reduceCtorEq, k1, k2, k3, k4, k5, k6, k7, k8, k9]
      refine acall_ret hti ?_
      simp -implicitDefEqProofs only [ev, ↓reduceIte, Nat.reduceAdd, Nat.reduceEqDiff, Nat.reduceLeDiff, reduceCtorEq, k1, k2, k3, k4, k5, k6, k7, k8, k9]
      refine ⟨by omega, fin_same (.one (by simp)) ⟨by rw [← hRes, hE], rfl⟩⟩
  | group m x h =>
    have e1' : (⟨#[40]⟩ : ByteArray).size = 1 := rfl
    obtain ⟨ks, hks⟩ : ∃ ks, ks = [x] := ⟨_, rfl⟩
    have hkids : ∀ y ∈ ks, Ret prog 14 [.agg (y.cells.map .iv)] (.one (sct (.string (putB y)))) := fun y hy => by
      rw [hks] at hy
      simp only [List.mem_singleton] at hy
      subst hy
      simp only [groupN, Nd.size, ndSize] at hn hb
      exact ih y (by omega) h (by omega)
    have hRes := ref_group m x
    obtain ⟨R, hR⟩ : ∃ R, putB (groupN m x) = R := ⟨_, rfl⟩
    rw [hR] at hRes
    rw [hR]
    have e : groupN m x = .mk 9 [] 0 0 false m ks := by rw [hks]; rfl
    rw [← hks] at hRes
    rw [e] at hpo hn hb
    rw [e]
    have hpos : PutOks ks := hpo.2.2.2.2.2
    simp only [Nd.size] at hn hb
    refine .of r14_ok (by simp [Nd.cells, clsIV]) (.one (by simp)) (by simp [r14]) ?_
    simp only [oo, on, og, om, ol, oh, zN, ci, r14, initTm, Nat.reduceAdd, Nd.cells, ndRows_eq, List.map_cons, List.map_nil]
    obtain ⟨F, hF⟩ : ∃ F, refL 9 0 ⟨#[]⟩ ks = F := ⟨_, rfl⟩
    rw [hF] at hRes
    clear hks e
    have e41 : (⟨#[41]⟩ : ByteArray).size = 1 := rfl
    have k1 : ((9 : Int) == 1) = false := rfl
    have k2 : ((9 : Int) == 2) = false := rfl
    have k3 : ((9 : Int) == 3) = false := rfl
    have k4 : ((9 : Int) == 4) = false := rfl
    have k5 : ((9 : Int) == 5) = false := rfl
    have k6 : ((9 : Int) == 6) = false := rfl
    have k7 : ((9 : Int) == 7) = false := rfl
    have k8 : ((9 : Int) == 8) = false := rfl
    have k9 : ((9 : Int) == 9) = true := rfl
    simp -implicitDefEqProofs only [ev, ↓reduceIte, Nat.reduceAdd, Nat.reduceEqDiff, Nat.reduceLeDiff, reduceCtorEq, k1, k2, k3, k4, k5, k6, k7, k8, k9, awp_loop]
    refine aloop_mk (σ := Nat × ByteArray) (fun q => [(1, .one (.ip [.sc (.int .i64 9), clsIV [], .sc (.int .i64 0), .sc (.int .i64 0), .sc (.bool false), .sc (.int .i64 m), .sl 7 (ks.map Nd.cells)] 0)), (3, .one (sct (.string q.2))), (4, .one (sct (.int .i64 (q.1 : Nat))))])
      (fun _ => Hp.nil) (fun q => q.1 ≤ ks.length ∧ q.2.size ≤ 50000000 * ndSize (ks.take q.1) ∧ refL 9 q.1 q.2 (ks.drop q.1) = F) (fun q => ks.length - q.1) (0, ⟨#[]⟩) ⟨by simp, Nat.zero_le _, by simpa using hF⟩ (wk_none ?_) ?_
    · simp only [wk, ↓reduceIte, Nat.reduceEqDiff, reduceCtorEq, Nat.reduceLT]
      try simp
    rintro ⟨i, out⟩ ⟨hi, hsz, hE⟩
    simp only at hi hsz hE
    simp only [oo, on, og, om, ol, oh, zN, ci, r14_l0]
    simp -implicitDefEqProofs only [ev, ↓reduceIte, Nat.reduceAdd, Nat.reduceEqDiff, Nat.reduceLeDiff, reduceCtorEq]
    refine .mk fun hb1 => ?_
    simp -implicitDefEqProofs only [ev, ↓reduceIte, Nat.reduceAdd, Nat.reduceEqDiff, Nat.reduceLeDiff, reduceCtorEq]
    refine .mk (fun h => ?_) (fun h => ?_)
    · have hlt : i < ks.length := by simpa using h
      have hx := List.getElem?_eq_getElem hlt
      have hm := List.getElem_mem hlt
      have hsum := ndSize_succ hlt
      have hle := ndSize_take ks (i + 1)
      rw [List.drop_eq_getElem_cons hlt, refL] at hE
      have hr := hkids _ hm
      have hpy := putB_size _ (hpos.get hm)
      generalize ks[i] = y at hx hm hE hr hpy hsum
      have hTe : refT 9 i y = refT 9 i y := rfl
      generalize hT : refT 9 i y = T at hE
      have hy1 : 1 ≤ y.size := by cases y; simp [Nd.size]
      obtain ⟨B, hB⟩ : ∃ B, putB y = B := ⟨_, rfl⟩
      rw [hB] at hr hpy
      have e3 : (⟨#[40, 63, 58]⟩ : ByteArray).size = 3 := rfl
      have e1 : (⟨#[41]⟩ : ByteArray).size = 1 := rfl
      have e2 : (⟨#[124]⟩ : ByteArray).size = 1 := rfl
      have hw : IntKind.i64.wrap ((i : Int) + 1) = ((i + 1 : Nat) : Int) := wrap64 (by omega) (by omega)
      cases y with
      | mk ky cy ay by_ zy my ksy =>
      simp only [Nd.cells, ndRows_eq, List.map_cons, List.map_nil] at hr
      simp -implicitDefEqProofs only [ev, ↓reduceIte, Nat.reduceAdd, Nat.reduceEqDiff, Nat.reduceLeDiff, reduceCtorEq, List.getElem?_map, hx, Nd.cells, ndRows_eq, Int.natCast_nonneg]
      refine acall_ret hr ?_
      simp -implicitDefEqProofs only [ev, ↓reduceIte, Nat.reduceAdd, Nat.reduceEqDiff, Nat.reduceLeDiff, reduceCtorEq, k1, k2, k3, k4, k5, k6, k7, k8, k9]
      have hTe : T = B := by
        rw [← hT, ← hB]
        first | (show wrapB (ky == 0 || (decide (ky ≥ 6) && decide (ky ≤ 8))) _ = _; simp only [wrapB, Nd.kind, k9, k1, k2, k3, k4, k5, k6, k7, k8, k9, Bool.true_and, Bool.and_true, Bool.and_self, Bool.false_and, Bool.and_false, Bool.or_false, Bool.false_or, Bool.true_or, Bool.or_true, Bool.or_self, if_true, if_false, Bool.false_eq_true]; done) | (simp only [refT, wq, wrapB, Nd.kind, k9, k1, k2, k3, k4, k5, k6, k7, k8, k9, Bool.true_and, Bool.and_true, Bool.and_self, Bool.false_and, Bool.and_false, Bool.or_false, Bool.false_or, Bool.true_or, Bool.or_true, Bool.or_self, if_true, if_false, Bool.false_eq_true]; done)
      have hTz : (B).size ≤ B.size + 5 := by
        (try simp only [ByteArray.size_append]); omega
      rw [hTe] at hE
      rw [hw]
      refine id ⟨by (try simp only [ByteArray.size_append]); omega, (i + 1, out ++ (B)), ⟨by simp only; omega, by show (out ++ (B)).size ≤ 50000000 * ndSize (ks.take (i + 1)); rw [ByteArray.size_append]; omega, hE⟩, by simp only; omega, wk_none ?_⟩
      simp only [wk, ↓reduceIte, Nat.reduceEqDiff, reduceCtorEq, Nat.reduceLT]
      try simp
    · have hge : ks.drop i = [] := List.drop_eq_nil_of_le (by have := of_decide_eq_false h; omega)
      rw [hge, refL] at hE
      have hle := ndSize_take ks i
      simp -implicitDefEqProofs only [ev, ↓reduceIte, Nat.reduceAdd, Nat.reduceEqDiff, Nat.reduceLeDiff, reduceCtorEq, k1, k2, k3, k4, k5, k6, k7, k8, k9]
      refine ⟨by omega, by (try simp only [ByteArray.size_append]); omega, fin_same (.one (by simp)) ⟨by rw [← hRes, hE], rfl⟩⟩

theorem f14_all (n : Nat) : ∀ (x : Nd), x.size ≤ n → Ok x → x.size ≤ 1000000 → Ret prog 14 [.agg (x.cells.map .iv)] (.one (sct (.string (putB x)))) := by
  induction n with
  | zero => intro x hx; cases x; simp [Nd.size] at hx
  | succ n ih => intro x hx ho hb; exact f14_step (n + 1) (fun x h ho hb => ih x (by omega) ho hb) x hx ho hb
theorem f14_ok (x : Nd) (ho : Ok x) (hb : x.size ≤ 1000000) : Ret prog 14 [.agg (x.cells.map .iv)] (.one (sct (.string (putB x)))) := f14_all _ x (Nat.le_refl _) ho hb
end Go.Av

