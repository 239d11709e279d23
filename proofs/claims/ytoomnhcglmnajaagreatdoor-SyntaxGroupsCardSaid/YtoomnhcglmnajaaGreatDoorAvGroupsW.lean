/-
  Groups side by side and in one another, how they are parsed, and the walk of their law; no condition.
-/
import Derived.Test.YtoomnhcglmnajaaGreatDoorAvThree
import Derived.Test.YtoomnhcglmnajaaGreatDoorAvNine
import Derived.Test.YtoomnhcglmnajaaGreatDoorAvSeq
import Derived.Test.YtoomnhcglmnajaaGreatDoorAvVals
import Derived.KernelRfl
import Derived.Test.YtoomnhcglmnajaaGreatDoorProg
set_option linter.unusedVariables false
set_option linter.unusedSimpArgs false
namespace Go.Av
open Go.RowKit Go.Proofs.Tryz

def imm45 : Nat → Bool := fun t => ([2, 12, 27] : List Nat).contains t
def r45_l0 : RC := (.seq (.seq (.reg [⟨(some 14), (.mov (.t 5)), none⟩, ⟨(some 15), (.faddr 6 (.t 2)), none⟩, ⟨(some 16), (.load false 1 (.t 15)), none⟩, ⟨(some 17), (.len (.t 16)), none⟩, ⟨(some 18), (.bin .lss (.t 14) (.t 17)), none⟩]) (.cond (.t 18) .skip (.exit 0))) (.seq (.block 1 (.reg [⟨(some 21), (.faddr 6 (.t 2)), none⟩, ⟨(some 22), (.load false 1 (.t 21)), none⟩, ⟨(some 23), (.mov (.t 5)), none⟩, ⟨(some 24), (.iaddr 7 (.t 22) (.t 23)), none⟩, ⟨(some 25), (.load true 7 (.t 24)), none⟩, ⟨(some 26), (.mov (.t 1)), none⟩, ⟨(some 27), (.call 45 [(.t 25), (.t 26)]), none⟩, ⟨(some 1), (.mov (.t 27)), none⟩])) (.reg [⟨(some 19), (.mov (.t 5)), none⟩, ⟨(some 20), (.bin .add (.t 19) (.c (.int .i64 (1)))), none⟩, ⟨(some 5), (.mov (.t 20)), none⟩])))
def r45 : RF := ⟨29, [(.tmp 4)], (.seq (.reg [⟨(some 2), (.box true 7 (.t 0)), none⟩, ⟨(some 4), (.mov (.c (Value.slice none 0 0))), none⟩]) (.seq (.seq (.reg [⟨(some 6), (.faddr 0 (.t 2)), none⟩, ⟨(some 7), (.load false 1 (.t 6)), none⟩, ⟨(some 8), (.bin .eql (.t 7) (.c (.int .i64 (9)))), none⟩]) (.cond (.t 8) (.reg [⟨(some 9), (.mov (.t 1)), none⟩, ⟨(some 10), (.faddr 5 (.t 2)), none⟩, ⟨(some 11), (.load false 1 (.t 10)), none⟩, ⟨(some 12), (.bslice true 1 [(.t 11)]), none⟩, ⟨(some 13), (.append 1 8 [(.int .i64 (0))] (.t 9) (.t 12)), none⟩, ⟨(some 1), (.mov (.t 13)), none⟩]) .skip)) (.seq (.seq (.reg [⟨(some 5), (.mov (.c (.int .i64 (0)))), none⟩]) (.block 0 (.loop r45_l0))) (.seq (.reg [⟨(some 28), (.mov (.t 1)), none⟩, ⟨(some 4), (.mov (.t 28)), none⟩]) .ret))))⟩
theorem r45_ok : rsvF prog 45 imm45 = some r45 := by kernel_rfl

def imm24 : Nat → Bool := fun t => ([1, 6] : List Nat).contains t
def r24_l0 : RC := (.seq (.seq (.reg [⟨(some 7), (.mov (.t 4)), none⟩, ⟨(some 8), (.mov (.t 3)), none⟩, ⟨(some 9), (.len (.t 8)), none⟩, ⟨(some 10), (.bin .lss (.t 7) (.t 9)), none⟩]) (.cond (.t 10) .skip (.exit 0))) (.seq (.block 1 (.seq (.reg [⟨(some 13), (.mov (.t 3)), none⟩, ⟨(some 14), (.mov (.t 4)), none⟩, ⟨(some 15), (.iaddr 1 (.t 13) (.t 14)), none⟩, ⟨(some 16), (.load false 1 (.t 15)), none⟩, ⟨(some 17), (.mov (.t 4)), none⟩, ⟨(some 18), (.bin .add (.t 17) (.c (.int .i64 (1)))), none⟩, ⟨(some 19), (.bin .neq (.t 16) (.t 18)), none⟩]) (.cond (.t 19) (.seq (.reg [⟨(some 2), (.mov (.c (.int .i64 (-1000)))), none⟩]) .ret) .skip))) (.reg [⟨(some 11), (.mov (.t 4)), none⟩, ⟨(some 12), (.bin .add (.t 11) (.c (.int .i64 (1)))), none⟩, ⟨(some 4), (.mov (.t 12)), none⟩])))
def r24 : RF := ⟨22, [(.tmp 2)], (.seq (.reg [⟨(some 1), (.box true 7 (.t 0)), none⟩, ⟨(some 2), (.mov (.c (.int .i64 (0)))), none⟩]) (.seq (.reg [⟨(some 5), (.load true 7 (.t 1)), none⟩, ⟨(some 6), (.call 45 [(.t 5), (.c (Value.slice none 0 0))]), none⟩, ⟨(some 3), (.mov (.t 6)), none⟩]) (.seq (.seq (.reg [⟨(some 4), (.mov (.c (.int .i64 (0)))), none⟩]) (.block 0 (.loop r24_l0))) (.seq (.reg [⟨(some 20), (.mov (.t 3)), none⟩, ⟨(some 21), (.len (.t 20)), none⟩, ⟨(some 2), (.mov (.t 21)), none⟩]) .ret))))⟩
theorem r24_ok : rsvF prog 24 imm24 = some r24 := by kernel_rfl

def imm6 : Nat → Bool := fun t => ([15, 57, 80, 86] : List Nat).contains t
def r6_l0 : RC := (.seq (.seq (.reg [⟨(some 21), (.mov (.t 10)), none⟩, ⟨(some 22), (.mov (.t 6)), none⟩, ⟨(some 23), (.bin .lss (.t 21) (.t 22)), none⟩]) (.cond (.t 23) .skip (.exit 0))) (.seq (.block 1 (.seq (.seq (.reg [⟨(some 26), (.mov (.t 10)), none⟩, ⟨(some 27), (.bin .eql (.t 26) (.c (.int .i64 (8)))), none⟩]) (.cond (.t 27) (.reg [⟨(some 28), (.mov (.t 7)), none⟩, ⟨(some 29), (.slen (.t 28)), none⟩, ⟨(some 9), (.mov (.t 29)), none⟩]) .skip)) (.seq (.reg [⟨(some 30), (.mov (.t 7)), none⟩, ⟨(some 31), (.bin .add (.t 30) (.c (Value.string { data := #[40, 97] }))), none⟩, ⟨(some 7), (.mov (.t 31)), none⟩]) (.seq (.reg [⟨(some 32), (.mov (.t 8)), none⟩, ⟨(some 33), (.bin .add (.t 32) (.c (.int .i64 (1)))), none⟩, ⟨(some 8), (.mov (.t 33)), none⟩]) (.seq (.reg [⟨(some 34), (.mov (.t 10)), none⟩, ⟨(some 35), (.mov (.t 1)), none⟩, ⟨(some 36), (.len (.t 35)), none⟩, ⟨(some 37), (.bin .lss (.t 34) (.t 36)), none⟩, ⟨(some 38), (.mov (.t 37)), none⟩, ⟨(some 39), (.mov (.t 1)), (some (38, true))⟩, ⟨(some 40), (.mov (.t 10)), (some (38, true))⟩, ⟨(some 41), (.iaddr 1 (.t 39) (.t 40)), (some (38, true))⟩, ⟨(some 42), (.load false 1 (.t 41)), (some (38, true))⟩, ⟨(some 43), (.pick (.t 38) (.t 42) (.c (.bool false))), none⟩]) (.cond (.t 43) (.seq (.reg [⟨(some 44), (.mov (.t 7)), none⟩, ⟨(some 45), (.bin .add (.t 44) (.c (Value.string { data := #[41] }))), none⟩, ⟨(some 7), (.mov (.t 45)), none⟩]) (.reg [⟨(some 46), (.mov (.t 8)), none⟩, ⟨(some 47), (.bin .sub (.t 46) (.c (.int .i64 (1)))), none⟩, ⟨(some 8), (.mov (.t 47)), none⟩])) .skip)))))) (.reg [⟨(some 24), (.mov (.t 10)), none⟩, ⟨(some 25), (.bin .add (.t 24) (.c (.int .i64 (1)))), none⟩, ⟨(some 10), (.mov (.t 25)), none⟩])))
def r6_l1 : RC := (.seq (.seq (.reg [⟨(some 48), (.mov (.t 11)), none⟩, ⟨(some 49), (.mov (.t 8)), none⟩, ⟨(some 50), (.bin .lss (.t 48) (.t 49)), none⟩]) (.cond (.t 50) .skip (.exit 2))) (.seq (.block 3 (.reg [⟨(some 53), (.mov (.t 7)), none⟩, ⟨(some 54), (.bin .add (.t 53) (.c (Value.string { data := #[41] }))), none⟩, ⟨(some 7), (.mov (.t 54)), none⟩])) (.reg [⟨(some 51), (.mov (.t 11)), none⟩, ⟨(some 52), (.bin .add (.t 51) (.c (.int .i64 (1)))), none⟩, ⟨(some 11), (.mov (.t 52)), none⟩])))
def r6 : RF := ⟨90, [(.tmp 4)], (.seq (.reg [⟨(some 4), (.mov (.c (.bool false))), none⟩]) (.seq (.reg [⟨(some 15), (.call 9 []), none⟩, ⟨(some 5), (.mov (.t 15)), none⟩]) (.seq (.seq (.reg [⟨(some 16), (.mov (.t 5)), none⟩, ⟨(some 17), (.not (.t 16)), none⟩]) (.cond (.t 17) (.seq (.reg [⟨(some 4), (.mov (.c (.bool false))), none⟩]) .ret) .skip)) (.seq (.reg [⟨(some 18), (.mov (.t 0)), none⟩, ⟨(some 19), (.bin .rem (.t 18) (.c (.int .u8 (12)))), none⟩, ⟨(some 20), (.iconv .i64 (.t 19)), none⟩, ⟨(some 6), (.mov (.t 20)), none⟩]) (.seq (.reg [⟨(some 7), (.mov (.c (Value.string { data := #[] }))), none⟩]) (.seq (.reg [⟨(some 8), (.mov (.c (.int .i64 (0)))), none⟩]) (.seq (.reg [⟨(some 9), (.mov (.c (.int .i64 (0)))), none⟩]) (.seq (.seq (.reg [⟨(some 10), (.mov (.c (.int .i64 (0)))), none⟩]) (.block 0 (.loop r6_l0))) (.seq (.seq (.reg [⟨(some 11), (.mov (.c (.int .i64 (0)))), none⟩]) (.block 2 (.loop r6_l1))) (.seq (.reg [⟨(some 56), (.mov (.t 7)), none⟩, ⟨(some 57), (.call 11 [(.t 56)]), none⟩, ⟨(some 55), (.mov (.t 57)), none⟩, ⟨(some 58), (.extract (.t 55) 0), none⟩, ⟨(some 59), (.extract (.t 55) 1), none⟩, ⟨(some 60), (.extract (.t 55) 2), none⟩, ⟨(some 12), (.alloc [(.int .i64 (0)), (Value.slice none 0 0), (.int .i64 (0)), (.int .i64 (0)), (.bool false), (.int .i64 (0)), (Value.slice none 0 0)]), none⟩, ⟨none, (.store 7 (.t 12) (.t 58)), none⟩, ⟨(some 13), (.mov (.t 59)), none⟩, ⟨(some 14), (.mov (.t 60)), none⟩]) (.seq (.seq (.reg [⟨(some 61), (.mov (.t 6)), none⟩, ⟨(some 62), (.bin .gtr (.t 61) (.c (.int .i64 (8)))), none⟩]) (.cond (.t 62) (.seq (.reg [⟨(some 63), (.mov (.t 5)), none⟩, ⟨(some 64), (.mov (.t 63)), none⟩, ⟨(some 65), (.mov (.t 14)), (some (64, true))⟩, ⟨(some 66), (.bin .eql (.t 65) (.c (.int .i64 (3)))), (some (64, true))⟩, ⟨(some 67), (.pick (.t 64) (.t 66) (.c (.bool false))), none⟩, ⟨(some 68), (.mov (.t 67)), none⟩, ⟨(some 69), (.mov (.t 13)), (some (68, true))⟩, ⟨(some 70), (.mov (.t 9)), (some (68, true))⟩, ⟨(some 71), (.bin .eql (.t 69) (.t 70)), (some (68, true))⟩, ⟨(some 72), (.pick (.t 68) (.t 71) (.c (.bool false))), none⟩, ⟨(some 4), (.mov (.t 72)), none⟩]) .ret) .skip)) (.seq (.reg [⟨(some 73), (.mov (.t 5)), none⟩, ⟨(some 74), (.mov (.t 73)), none⟩, ⟨(some 75), (.mov (.t 14)), (some (74, true))⟩, ⟨(some 76), (.bin .eql (.t 75) (.c (.int .i64 (0)))), (some (74, true))⟩, ⟨(some 77), (.pick (.t 74) (.t 76) (.c (.bool false))), none⟩, ⟨(some 78), (.mov (.t 77)), none⟩, ⟨(some 79), (.load true 7 (.t 12)), (some (78, true))⟩, ⟨(some 80), (.call 22 [(.t 79)]), (some (78, true))⟩, ⟨(some 81), (.mov (.t 6)), (some (78, true))⟩, ⟨(some 82), (.bin .eql (.t 80) (.t 81)), (some (78, true))⟩, ⟨(some 83), (.pick (.t 78) (.t 82) (.c (.bool false))), none⟩, ⟨(some 84), (.mov (.t 83)), none⟩, ⟨(some 85), (.load true 7 (.t 12)), (some (84, true))⟩, ⟨(some 86), (.call 24 [(.t 85)]), (some (84, true))⟩, ⟨(some 87), (.mov (.t 6)), (some (84, true))⟩, ⟨(some 88), (.bin .eql (.t 86) (.t 87)), (some (84, true))⟩, ⟨(some 89), (.pick (.t 84) (.t 88) (.c (.bool false))), none⟩, ⟨(some 4), (.mov (.t 89)), none⟩]) .ret))))))))))))⟩
theorem r6_ok : rsvF prog 6 imm6 = some r6 := by kernel_rfl

end Go.Av

namespace Go.Av
open Go.RowKit Go.Proofs.Tryz

/-! ### the groups of a node, as they stand -/
mutual
def grpL : Nd → List Int
  | .mk k _ _ _ _ m ks => (if k = 9 then [m] else []) ++ grpLs ks
def grpLs : List Nd → List Int
  | [] => []
  | x :: r => grpL x ++ grpLs r
end
mutual
theorem grpL_size : ∀ x : Nd, (grpL x).length ≤ x.size
  | .mk k c a b z m ks => by
    simp only [grpL, Nd.size, List.length_append]
    have := grpLs_size ks
    split <;> simp <;> omega
theorem grpLs_size : ∀ l : List Nd, (grpLs l).length ≤ ndSize l
  | [] => by simp [grpLs, ndSize]
  | x :: r => by
    simp only [grpLs, ndSize, List.length_append]
    have := grpL_size x
    have := grpLs_size r
    omega
end
theorem grpLs_append : ∀ (l m : List Nd), grpLs (l ++ m) = grpLs l ++ grpLs m
  | [], m => rfl
  | x :: r, m => by simp only [List.cons_append, grpLs, grpLs_append r m, List.append_assoc]

theorem fin_own0 {sz ver len : Nat} {Q : AE → Hp → Prop} {hp : Hp} {rows' : List (List AV)} (hn : 0 < hp.nxt) (hg : hp.bs.get 0 = some (.cells sz ver rows' false)) (hrow : ∀ row ∈ rows', ∀ x ∈ row, Low 0 x)
    (hq : Q (.ret (.one (.own 0 ver 0 len))) (heapO sz ver rows')) : Fin 1 Q (.one (.own 0 ver 0 len)) hp := by
  have hri : ridx [0] hp.nxt 0 = 0 := by simp [ridx]
  refine ⟨[], [], [0], .one (.own 0 ver 0 len), heapO sz ver rows', by simp, ?_, closed_heapO hrow, zero_idx, .one (by simp [heapO]), ?_, hq⟩
  · rw [Hp.prep_nil]; exact sub_heapO hg hn hrow
  · rw [Hp.prep_nil]
    simp only [LV.ren, AV.ren, hri]
    exact .lv (.refl _)

theorem acall_acc {P : Program} {f : FuncId} {args : List LV} {sz ver n : Nat} {rows rows' : List (List AV)} {hp : Hp} {K : LV → Hp → Prop} {Kp : Value → Hp → Prop} {b : Nat}
    (h : CallsA P f args (heapO sz ver rows) (fun ae hp => ∃ ver', ae = .ret (.one (.own 0 ver' 0 n)) ∧ hp = heapO sz ver' rows')) (hl : ∀ x ∈ args, LLow 1 x) (hrow : ∀ row ∈ rows, ∀ x ∈ row, Low 0 x) (hrow' : ∀ row ∈ rows', ∀ x ∈ row, Low 0 x)
    (hg : hp.bs.get b = some (.cells sz ver rows false)) (hb : b < hp.nxt) {args' : List LV} (ha : args' = lrens (ridx [b] hp.nxt) args)
    (hk : ∀ ver', K (.one (.own b ver' 0 n)) ⟨(b, .cells sz ver' rows' false) :: Bs.without [b] hp.bs, hp.nxt + 1⟩) : acall P f args' hp K Kp := by
  have hri : ridx [b] hp.nxt 0 = b := by simp [ridx]
  subst ha
  refine ⟨[], [], [b], heapO sz ver rows, args, _, h, by simp, ?_, closed_heapO hrow, hl, ?_, ?_⟩
  · rw [Hp.prep_nil]; exact sub_heapO hg hb hrow
  · rw [Hp.prep_nil]; exact CvLVs.refl _
  · rintro ae H' ⟨ver', rfl, rfl⟩
    rw [Hp.prep_nil]
    have := hk ver'
    simpa [Hp.back, heapO, Bs.ren, hri, Blk.ren, rens_rows hrow', LV.ren, AV.ren] using this

theorem acall_acc0 {P : Program} {f : FuncId} {x : LV} {sz n : Nat} {rows' : List (List AV)} {hp : Hp} {K : LV → Hp → Prop} {Kp : Value → Hp → Prop} (hs : 0 < sz)
    (h : CallsA P f [x, .one (.own 0 0 0 0)] (heapO sz 0 []) (fun ae hp => ∃ ver', ae = .ret (.one (.own 0 ver' 0 n)) ∧ hp = heapO sz ver' rows')) (hl : LLow 0 x) (hrow' : ∀ row ∈ rows', ∀ x ∈ row, Low 0 x)
    (hk : ∀ ver', K (.one (.own hp.nxt ver' 0 n)) ⟨(hp.nxt, .cells sz ver' rows' false) :: Bs.without [hp.nxt] ((hp.nxt, .cells sz 0 [] false) :: hp.bs), hp.nxt + 1 + 1⟩) : acall P f [x, .one (.iv (.sc (.slice none 0 0)))] hp K Kp := by
  have hri : ridx [hp.nxt] (hp.nxt + 1) 0 = hp.nxt := by simp [ridx]
  have hpr : hp.prep [] [sz] = ⟨(hp.nxt, .cells sz 0 [] false) :: hp.bs, hp.nxt + 1⟩ := by
    simp [Hp.prep, Hp.ghost, Hp.freeze, Bs.freeze_nil, Hp.new]
  have hg : (hp.prep [] [sz]).bs.get hp.nxt = some (.cells sz 0 [] false) := by rw [hpr]; simp [Bs.get]
  refine ⟨[], [sz], [hp.nxt], heapO sz 0 [], _, _, h, by simpa using hs, ?_, closed_heapO (by simp), ?_, ?_, ?_⟩
  · exact sub_heapO hg (by rw [hpr]; simp) (by simp)
  · intro y hy
    simp only [List.mem_cons, List.not_mem_nil, or_false] at hy
    rcases hy with rfl | rfl
    · exact hl.mono (Nat.zero_le _)
    · simp [heapO]
  · rw [hpr]
    simp only [lrens, LV.ren_low (n := 0) (by simp) hl, LV.ren, AV.ren, hri]
    exact .cons (.refl _) (.cons (.one (.nilOwn _ 0 sz [] false (by simp [Bs.get]) (by simp))) .nil)
  · rintro ae H' ⟨ver', rfl, rfl⟩
    rw [hpr]
    have := hk ver'
    simpa [Hp.back, heapO, Bs.ren, hri, Blk.ren, rens_rows hrow', LV.ren, AV.ren] using this

def GrpC (x : Nd) : Prop := ∀ (acc : List Int) (ver : Nat), acc.length + x.size ≤ 1000000 →
  CallsA prog 45 [.agg (x.cells.map .iv), .one (.own 0 ver 0 acc.length)] (heapO 1 ver (rowsOf intRow acc)) (fun ae hp => ∃ ver', ae = .ret (.one (.own 0 ver' 0 (acc ++ grpL x).length)) ∧ hp = heapO 1 ver' (rowsOf intRow (acc ++ grpL x)))

theorem f45_step (n : Nat) (ih : ∀ x : Nd, x.size < n → GrpC x) (x : Nd) (hn : x.size ≤ n) : GrpC x := by
  intro acc ver hsz
  cases x with
  | mk k c a b z m ks =>
  refine calls_of_rsv r45_ok (by simp [r45]) ?_
  simp only [r45, initTm, Nat.reduceAdd, Nd.cells, ndRows_eq, heapO, List.map_cons, List.map_nil]
  simp only [Nd.size] at hsz hn
  simp -implicitDefEqProofs only [ev, ↓reduceIte, Nat.reduceAdd, Nat.reduceEqDiff, Nat.reduceSub, Nat.reduceBEq, Nat.reduceLeDiff, reduceCtorEq]
  have hR : acc ++ grpL (.mk k c a b z m ks) = (acc ++ if k = 9 then [m] else []) ++ grpLs ks := by simp [grpL]
  rw [hR]
  generalize hRR : (acc ++ if k = 9 then [m] else []) ++ grpLs ks = R
  have hRl : R.length ≤ 1000000 := by
    rw [← hRR]
    have := grpLs_size ks
    split <;> simp <;> omega
  cases hk : (k == 9) with
  | true =>
    have hk' : k = 9 := by simpa using hk
    rw [if_pos hk'] at hRR
    simp -implicitDefEqProofs only [ev, ↓reduceIte, Nat.reduceAdd, Nat.reduceEqDiff, Nat.reduceSub, Nat.reduceBEq, Nat.reduceLeDiff, reduceCtorEq]
    refine ⟨by omega, ?_⟩
    rw [List.take_of_length_le (by rw [rowsOf_length]; exact Nat.le_refl _)]
    simp -implicitDefEqProofs only [ev, ↓reduceIte, Nat.reduceAdd, Nat.reduceEqDiff, Nat.reduceSub, Nat.reduceBEq, Nat.reduceLeDiff, reduceCtorEq, awp_loop]
    refine aloop_mk (σ := Nat × List Int × Nat) (fun q => [(1, .one (.own 0 q.2.2 0 q.2.1.length)), (2, .one (.ip [.sc (.int .i64 k), clsIV c, .sc (.int .i64 a), .sc (.int .i64 b), .sc (.bool z), .sc (.int .i64 m), .sl 7 (ks.map Nd.cells)] 0)), (5, .one (sct (.int .i64 (q.1 : Nat))))])
      (fun q => ⟨[(0, .cells 1 q.2.2 (rowsOf intRow q.2.1) false)], 1⟩) (fun q => q.1 ≤ ks.length ∧ q.2.1 ++ grpLs (ks.drop q.1) = R ∧ q.2.1.length + ndSize (ks.drop q.1) ≤ 1000000) (fun q => ks.length - q.1) (0, acc ++ [m], ver + 1) ⟨by simp, by simpa using hRR, by simp; omega⟩ (wk_keep' (by simp) (by simp) ?_ ?_ ?_) ?_
    · simp [BsEq, Bs.get, rowsOf, intRow]
    · exact ⟨rowsOf_low _ _, trivial⟩
    · simp only [wk, ↓reduceIte, Nat.reduceEqDiff, reduceCtorEq, Nat.reduceLT]
      simp
    rintro ⟨i, out, v⟩ ⟨hi, hE, hS⟩
    simp only at hi hE hS
    simp only [r45_l0]
    simp -implicitDefEqProofs only [ev, ↓reduceIte, Nat.reduceAdd, Nat.reduceEqDiff, Nat.reduceSub, Nat.reduceBEq, Nat.reduceLeDiff, reduceCtorEq]
    refine .mk fun hb => ?_
    simp -implicitDefEqProofs only [ev, ↓reduceIte, Nat.reduceAdd, Nat.reduceEqDiff, Nat.reduceSub, Nat.reduceBEq, Nat.reduceLeDiff, reduceCtorEq]
    refine .mk (fun h => ?_) (fun h => ?_)
    · have hlt : i < ks.length := by simpa using h
      have hx := List.getElem?_eq_getElem hlt
      have hd : ks.drop i = ks[i] :: ks.drop (i + 1) := List.drop_eq_getElem_cons hlt
      have hmem : ks[i] ∈ ks := List.getElem_mem hlt
      generalize ks[i] = x at hx hd hmem
      rw [hd, grpLs, ← List.append_assoc] at hE
      rw [hd, ndSize] at hS
      have hxs := ndSize_mem hmem
      have hol : out.length + x.size ≤ 1000000 := by omega
      have hgl := grpL_size x
      have hc := ih x (by omega) out v hol
      cases x with
      | mk k1 c1 a1 b1 z1 m1 ks1 =>
      simp only [Nd.cells, ndRows_eq, List.map_cons, List.map_nil] at hc
      simp -implicitDefEqProofs only [ev, ↓reduceIte, Nat.reduceAdd, Nat.reduceEqDiff, Nat.reduceSub, Nat.reduceBEq, Nat.reduceLeDiff, reduceCtorEq, List.getElem?_map, hx, Nd.cells, ndRows_eq, Int.natCast_nonneg]
      refine acall_acc (b := 0) hc (by simp [heapO]) (rowsOf_low _ _) (rowsOf_low _ _) (by simp [Bs.get]) (by simp) (by simp [lrens, LV.ren, AV.ren, ridx, rens]) ?_
      intro v'
      simp only [Bs.without, List.contains, List.elem, beq_self_eq_true, if_true]
      simp -implicitDefEqProofs only [ev, ↓reduceIte, Nat.reduceAdd, Nat.reduceEqDiff, Nat.reduceSub, Nat.reduceBEq, Nat.reduceLeDiff, reduceCtorEq]
      rw [wrap64 (by omega) (by omega)]
      refine ⟨(i + 1, out ++ grpL (.mk k1 c1 a1 b1 z1 m1 ks1), v'), ⟨by simp only; omega, hE, by simp only [List.length_append]; omega⟩, by simp only; omega, wk_keep' (by simp) (by simp) ?_ ?_ ?_⟩
      · simp [BsEq, Bs.get]
      · exact ⟨rowsOf_low _ _, trivial⟩
      · simp only [wk, ↓reduceIte, Nat.reduceEqDiff, reduceCtorEq, Nat.reduceLT]
        simp
    · simp -implicitDefEqProofs only [ev, ↓reduceIte, Nat.reduceAdd, Nat.reduceEqDiff, Nat.reduceSub, Nat.reduceBEq, Nat.reduceLeDiff, reduceCtorEq]
      have hge : ks.drop i = [] := List.drop_eq_nil_of_le (by have := of_decide_eq_false h; omega)
      rw [hge, grpLs, List.append_nil] at hE
      subst hE
      exact fin_own0 (by simp) (by simp [Bs.get]) (rowsOf_low _ _) ⟨v, rfl, rfl⟩
  | false =>
    have hk' : ¬ k = 9 := by simpa using hk
    rw [if_neg hk', List.append_nil] at hRR
    simp -implicitDefEqProofs only [ev, ↓reduceIte, Nat.reduceAdd, Nat.reduceEqDiff, Nat.reduceSub, Nat.reduceBEq, Nat.reduceLeDiff, reduceCtorEq, awp_loop]
    refine aloop_mk (σ := Nat × List Int × Nat) (fun q => [(1, .one (.own 0 q.2.2 0 q.2.1.length)), (2, .one (.ip [.sc (.int .i64 k), clsIV c, .sc (.int .i64 a), .sc (.int .i64 b), .sc (.bool z), .sc (.int .i64 m), .sl 7 (ks.map Nd.cells)] 0)), (5, .one (sct (.int .i64 (q.1 : Nat))))])
      (fun q => ⟨[(0, .cells 1 q.2.2 (rowsOf intRow q.2.1) false)], 1⟩) (fun q => q.1 ≤ ks.length ∧ q.2.1 ++ grpLs (ks.drop q.1) = R ∧ q.2.1.length + ndSize (ks.drop q.1) ≤ 1000000) (fun q => ks.length - q.1) (0, acc, ver) ⟨by simp, by simpa using hRR, by simp; omega⟩ (wk_keep' (by simp) (by simp) ?_ ?_ ?_) ?_
    · simp [BsEq, Bs.get, rowsOf, intRow]
    · exact ⟨rowsOf_low _ _, trivial⟩
    · simp only [wk, ↓reduceIte, Nat.reduceEqDiff, reduceCtorEq, Nat.reduceLT]
      simp
    rintro ⟨i, out, v⟩ ⟨hi, hE, hS⟩
    simp only at hi hE hS
    simp only [r45_l0]
    simp -implicitDefEqProofs only [ev, ↓reduceIte, Nat.reduceAdd, Nat.reduceEqDiff, Nat.reduceSub, Nat.reduceBEq, Nat.reduceLeDiff, reduceCtorEq]
    refine .mk fun hb => ?_
    simp -implicitDefEqProofs only [ev, ↓reduceIte, Nat.reduceAdd, Nat.reduceEqDiff, Nat.reduceSub, Nat.reduceBEq, Nat.reduceLeDiff, reduceCtorEq]
    refine .mk (fun h => ?_) (fun h => ?_)
    · have hlt : i < ks.length := by simpa using h
      have hx := List.getElem?_eq_getElem hlt
      have hd : ks.drop i = ks[i] :: ks.drop (i + 1) := List.drop_eq_getElem_cons hlt
      have hmem : ks[i] ∈ ks := List.getElem_mem hlt
      generalize ks[i] = x at hx hd hmem
      rw [hd, grpLs, ← List.append_assoc] at hE
      rw [hd, ndSize] at hS
      have hxs := ndSize_mem hmem
      have hol : out.length + x.size ≤ 1000000 := by omega
      have hgl := grpL_size x
      have hc := ih x (by omega) out v hol
      cases x with
      | mk k1 c1 a1 b1 z1 m1 ks1 =>
      simp only [Nd.cells, ndRows_eq, List.map_cons, List.map_nil] at hc
      simp -implicitDefEqProofs only [ev, ↓reduceIte, Nat.reduceAdd, Nat.reduceEqDiff, Nat.reduceSub, Nat.reduceBEq, Nat.reduceLeDiff, reduceCtorEq, List.getElem?_map, hx, Nd.cells, ndRows_eq, Int.natCast_nonneg]
      refine acall_acc (b := 0) hc (by simp [heapO]) (rowsOf_low _ _) (rowsOf_low _ _) (by simp [Bs.get]) (by simp) (by simp [lrens, LV.ren, AV.ren, ridx, rens]) ?_
      intro v'
      simp only [Bs.without, List.contains, List.elem, beq_self_eq_true, if_true]
      simp -implicitDefEqProofs only [ev, ↓reduceIte, Nat.reduceAdd, Nat.reduceEqDiff, Nat.reduceSub, Nat.reduceBEq, Nat.reduceLeDiff, reduceCtorEq]
      rw [wrap64 (by omega) (by omega)]
      refine ⟨(i + 1, out ++ grpL (.mk k1 c1 a1 b1 z1 m1 ks1), v'), ⟨by simp only; omega, hE, by simp only [List.length_append]; omega⟩, by simp only; omega, wk_keep' (by simp) (by simp) ?_ ?_ ?_⟩
      · simp [BsEq, Bs.get]
      · exact ⟨rowsOf_low _ _, trivial⟩
      · simp only [wk, ↓reduceIte, Nat.reduceEqDiff, reduceCtorEq, Nat.reduceLT]
        simp
    · simp -implicitDefEqProofs only [ev, ↓reduceIte, Nat.reduceAdd, Nat.reduceEqDiff, Nat.reduceSub, Nat.reduceBEq, Nat.reduceLeDiff, reduceCtorEq]
      have hge : ks.drop i = [] := List.drop_eq_nil_of_le (by have := of_decide_eq_false h; omega)
      rw [hge, grpLs, List.append_nil] at hE
      subst hE
      exact fin_own0 (by simp) (by simp [Bs.get]) (rowsOf_low _ _) ⟨v, rfl, rfl⟩

theorem f45_all (n : Nat) : ∀ x : Nd, x.size ≤ n → GrpC x := by
  induction n using Nat.strongRecOn with
  | ind n ih => exact fun x hx => f45_step n (fun y hy => ih y.size hy y (Nat.le_refl _)) x hx
theorem f45_ok (x : Nd) : GrpC x := f45_all _ x (Nat.le_refl _)

/-- So many, if they rise as they stand. -/
def risesFrom : Nat → List Int → Bool
  | _, [] => true
  | i, x :: r => x == (i + 1 : Nat) && risesFrom (i + 1) r
def orderedI (l : List Int) : Int := if risesFrom 0 l then l.length else -1000

theorem f24_ok (x : Nd) (hs : x.size ≤ 1000000) : Ret prog 24 [.agg (x.cells.map .iv)] (.one (sct (.int .i64 (orderedI (grpL x))))) := by
  have hc := f45_ok x [] 0 (by simpa using hs)
  have hgl := grpL_size x
  simp only [List.nil_append, List.length_nil] at hc
  generalize grpL x = l at hc hgl
  generalize hR : orderedI l = R
  cases x with
  | mk k c a b z m ks =>
  simp only [Nd.cells, ndRows_eq, List.map_cons, List.map_nil] at hc
  refine .of r24_ok (by simp) (.one (by simp)) (by simp [r24]) ?_
  simp only [r24, initTm, Nat.reduceAdd, Nd.cells, ndRows_eq, List.map_cons, List.map_nil]
  simp -implicitDefEqProofs only [ev, ↓reduceIte, Nat.reduceAdd, Nat.reduceEqDiff, Nat.reduceSub, Nat.reduceBEq, Nat.reduceLeDiff, reduceCtorEq]
  refine acall_acc0 (by decide) hc (by simp) (rowsOf_low _ _) ?_
  intro v
  simp only [Bs.without, List.contains, List.elem, beq_self_eq_true, if_true]
  simp -implicitDefEqProofs only [ev, ↓reduceIte, Nat.reduceAdd, Nat.reduceEqDiff, Nat.reduceSub, Nat.reduceBEq, Nat.reduceLeDiff, reduceCtorEq, awp_loop]
  refine aloop_mk (σ := Nat) (fun i => [(3, .one (.own 0 v 0 l.length)), (4, .one (sct (.int .i64 (i : Nat))))])
    (fun _ => ⟨[(0, .cells 1 v (rowsOf intRow l) false)], 1⟩) (fun i => i ≤ l.length ∧ (if risesFrom i (l.drop i) then (l.length : Int) else -1000) = R) (fun i => l.length - i) 0 ⟨by simp, by simpa [orderedI] using hR⟩ (wk_keep' (by simp) (by simp) ?_ ?_ ?_) ?_
  · simp [BsEq, Bs.get]
  · exact ⟨rowsOf_low _ _, trivial⟩
  · simp only [wk, ↓reduceIte, Nat.reduceEqDiff, reduceCtorEq, Nat.reduceLT]
    simp
  rintro i ⟨hi, hE⟩
  simp only [r24_l0]
  simp -implicitDefEqProofs only [ev, ↓reduceIte, Nat.reduceAdd, Nat.reduceEqDiff, Nat.reduceSub, Nat.reduceBEq, Nat.reduceLeDiff, reduceCtorEq]
  refine .mk fun hb => ?_
  simp -implicitDefEqProofs only [ev, ↓reduceIte, Nat.reduceAdd, Nat.reduceEqDiff, Nat.reduceSub, Nat.reduceBEq, Nat.reduceLeDiff, reduceCtorEq]
  refine .mk (fun h => ?_) (fun h => ?_)
  · have hlt : i < l.length := by simpa using h
    have hx := List.getElem?_eq_getElem hlt
    have hd : l.drop i = l[i] :: l.drop (i + 1) := List.drop_eq_getElem_cons hlt
    generalize l[i] = y at hx hd
    rw [hd, risesFrom] at hE
    simp -implicitDefEqProofs only [ev, ↓reduceIte, Nat.reduceAdd, Nat.reduceEqDiff, Nat.reduceSub, Nat.reduceBEq, Nat.reduceLeDiff, reduceCtorEq, Nat.zero_add, rowsOf_get, hx, intRow, Int.natCast_nonneg]
    have hw : IntKind.i64.wrap ((i : Int) + 1) = ((i + 1 : Nat) : Int) := wrap64 (by omega) (by omega)
    refine ⟨by omega, ?_⟩
    rw [hw]
    cases hy : (y == ((i + 1 : Nat) : Int)) with
    | true =>
      have hne : (y != ((i + 1 : Nat) : Int)) = false := by unfold bne; rw [hy]; rfl
      rw [hy, Bool.true_and] at hE
      simp -implicitDefEqProofs only [ev, ↓reduceIte, Nat.reduceAdd, Nat.reduceEqDiff, Nat.reduceSub, Nat.reduceBEq, Nat.reduceLeDiff, reduceCtorEq, hne]
      rw [hw]
      refine ⟨i + 1, ⟨by omega, hE⟩, by omega, wk_keep' (by simp) (by simp) ?_ ?_ ?_⟩
      · simp [BsEq, Bs.get]
      · exact ⟨rowsOf_low _ _, trivial⟩
      · simp only [wk, ↓reduceIte, Nat.reduceEqDiff, reduceCtorEq, Nat.reduceLT]
    | false =>
      have hne : (y != ((i + 1 : Nat) : Int)) = true := by unfold bne; rw [hy]; rfl
      rw [hy, Bool.false_and, if_neg (by decide)] at hE
      simp -implicitDefEqProofs only [ev, ↓reduceIte, Nat.reduceAdd, Nat.reduceEqDiff, Nat.reduceSub, Nat.reduceBEq, Nat.reduceLeDiff, reduceCtorEq, hne]
      exact fin_same (.one (by simp)) ⟨by rw [hE], rfl⟩
  · simp -implicitDefEqProofs only [ev, ↓reduceIte, Nat.reduceAdd, Nat.reduceEqDiff, Nat.reduceSub, Nat.reduceBEq, Nat.reduceLeDiff, reduceCtorEq]
    have hge : l.drop i = [] := List.drop_eq_nil_of_le (by have := of_decide_eq_false h; omega)
    rw [hge, risesFrom, if_pos rfl] at hE
    refine .mk fun h2 => ?_
    simp -implicitDefEqProofs only [ev, ↓reduceIte, Nat.reduceAdd, Nat.reduceEqDiff, Nat.reduceSub, Nat.reduceBEq, Nat.reduceLeDiff, reduceCtorEq]
    exact fin_same (.one (by simp)) ⟨by rw [hE], rfl⟩
end Go.Av

namespace Go.Av
open Go.RowKit

/-! ### groups, side by side or in one another -/
def gPiece (b : Bool) : List Int := if b then [40, 97, 41] else [40, 97]
def gPieceB (b : Bool) (s : ByteArray) : ByteArray := if b then s ++ ⟨#[40, 97]⟩ ++ ⟨#[41]⟩ else s ++ ⟨#[40, 97]⟩
/-- The text of the groups from one on. -/
def gT (bit : Nat → Bool) : Nat → Nat → List Int
  | 0, _ => []
  | k + 1, i => gPiece (bit i) ++ gT bit k (i + 1)
def gOpen (bit : Nat → Bool) : Nat → Nat → Nat
  | 0, _ => 0
  | k + 1, i => (if bit i then 0 else 1) + gOpen bit k (i + 1)
def gS (bit : Nat → Bool) : Nat → Nat → ByteArray → ByteArray
  | 0, _, s => s
  | k + 1, i, s => gS bit k (i + 1) (gPieceB (bit i) s)
def gN (bit : Nat → Bool) : Nat → Nat → List Nd
  | 0, _ => []
  | k + 1, i => if bit i then groupN (i + 1 : Nat) (runeN 97) :: gN bit k (i + 1) else [groupN (i + 1 : Nat) (seqN (runeN 97 :: gN bit k (i + 1)))]
def groupsB (bit : Nat → Bool) (n : Nat) : ByteArray := repB ⟨#[41]⟩ (gOpen bit n 0) (gS bit n 0 ⟨#[]⟩)

theorem gN_pc (bit : Nat → Bool) : ∀ k i, ∀ y ∈ gN bit k i, Pc y
  | 0, i, y, h => by cases h
  | k + 1, i, y, h => by
    have ih := gN_pc bit k (i + 1)
    rw [gN] at h
    split at h
    · rcases List.mem_cons.1 h with rfl | h
      · exact group_pc (rune_ok (by decide))
      · exact ih y h
    · simp at h; subst h
      refine group_pc (seq_ok ?_)
      intro y hy
      rcases List.mem_cons.1 hy with rfl | hy
      · exact rune_pc (by decide)
      · exact ih y hy
theorem gN_pc1 (bit : Nat → Bool) (k i : Nat) : ∀ y ∈ runeN 97 :: gN bit k i, Pc y := by
  intro y hy
  rcases List.mem_cons.1 hy with rfl | hy
  · exact rune_pc (by decide)
  · exact gN_pc bit k i y hy
theorem gN_put (bit : Nat → Bool) : ∀ k i, (gN bit k i).flatMap putI = gT bit k i ++ List.replicate (gOpen bit k i) 41
  | 0, i => rfl
  | k + 1, i => by
    have ih := gN_put bit k (i + 1)
    rw [gN, gT, gOpen]
    cases bit i with
    | true =>
      simp only [if_true, List.flatMap_cons, put_group, put_rune97, ih, gPiece, Nat.zero_add]
      simp
    | false =>
      simp only [Bool.false_eq_true, if_false, List.flatMap_cons, List.flatMap_nil, put_group, seq_put (gN_pc1 bit k (i + 1)), put_rune97, ih, gPiece, List.append_nil]
      rw [Nat.add_comm 1, List.replicate_succ']
      simp
theorem gN_num (bit : Nat → Bool) : ∀ k i, nums (gN bit k i) (i : Nat) = some ((i + k : Nat) : Int)
  | 0, i => rfl
  | k + 1, i => by
    have ih := gN_num bit k (i + 1)
    rw [gN]
    cases bit i with
    | true =>
      have h : num (groupN (i + 1 : Nat) (runeN 97)) (i : Nat) = some ((i + 1 : Nat) : Int) := by simp [groupN, num, nums, runeN, oneN]
      simp only [if_true, nums, h, Option.bind_some, ih]
      congr 2; omega
    | false =>
      have h : num (groupN (i + 1 : Nat) (seqN (runeN 97 :: gN bit k (i + 1)))) (i : Nat) = some ((i + 1 + k : Nat) : Int) := by
        have e : num (runeN 97) ((i + 1 : Nat) : Int) = some ((i + 1 : Nat) : Int) := by simp [num, nums, runeN, oneN]
        rw [groupN, num, if_pos rfl, if_pos (by omega), nums_one, seq_num, nums]
        rw [show ((i : Nat) : Int) + 1 = ((i + 1 : Nat) : Int) by omega, e, Option.bind_some, ih]
      simp only [Bool.false_eq_true, if_false, nums, h, Option.bind_some]
      congr 2; omega
theorem gN_groups (bit : Nat → Bool) : ∀ (k i : Nat) (a : Int), 0 ≤ a → a ≤ (i : Int) → ndGroups a (gN bit k i) = if k = 0 then a else ((i + k : Nat) : Int)
  | 0, i, a, _, _ => rfl
  | k + 1, i, a, h0, h1 => by
    rw [gN, if_neg (show ¬ k + 1 = 0 by omega)]
    cases bit i with
    | true =>
      have e : (groupN (i + 1 : Nat) (runeN 97)).groups = ((i + 1 : Nat) : Int) := by
        show ndGroups (imax ((i + 1 : Nat) : Int) 0) [runeN 97] = _
        rw [imax_ge (by omega)]
        simp only [ndGroups]
        exact imax_ge (by show (0 : Int) ≤ _; omega)
      simp only [if_true, ndGroups, e]
      rw [imax_le (by omega), gN_groups bit k (i + 1) _ (by omega) (by omega)]
      split <;> congr 1 <;> omega
    | false =>
      have e : (groupN (i + 1 : Nat) (seqN (runeN 97 :: gN bit k (i + 1)))).groups = ((i + 1 + k : Nat) : Int) := by
        show ndGroups (imax ((i + 1 : Nat) : Int) 0) [seqN (runeN 97 :: gN bit k (i + 1))] = _
        rw [imax_ge (by omega)]
        simp only [ndGroups, seq_groups]
        rw [show (runeN 97).groups = 0 from rfl, imax_ge (a := 0) (b := 0) (by decide), gN_groups bit k (i + 1) 0 (by decide) (by omega)]
        split
        · rw [imax_ge (by omega)]; congr 1; omega
        · rw [imax_le (by omega)]
      simp only [Bool.false_eq_true, if_false, ndGroups, e]
      rw [imax_le (by omega)]
      congr 1; omega
def riseL : Nat → Nat → List Int
  | 0, _ => []
  | k + 1, i => ((i + 1 : Nat) : Int) :: riseL k (i + 1)
theorem riseL_rises : ∀ k i, risesFrom i (riseL k i) = true ∧ (riseL k i).length = k
  | 0, i => ⟨rfl, rfl⟩
  | k + 1, i => by
    obtain ⟨h1, h2⟩ := riseL_rises k (i + 1)
    exact ⟨by simp [riseL, risesFrom, h1], by simp [riseL, h2]⟩
theorem grpL_seq : ∀ l : List Nd, grpL (seqN l) = grpLs l
  | [] => rfl
  | [x] => by simp [seqN, grpLs]
  | x :: y :: r => by simp [seqN, grpL]
theorem gN_grp (bit : Nat → Bool) : ∀ k i, grpLs (gN bit k i) = riseL k i
  | 0, i => rfl
  | k + 1, i => by
    have ih := gN_grp bit k (i + 1)
    have e97 : grpL (runeN 97) = [] := rfl
    rw [gN]
    cases bit i with
    | true => simp [grpLs, groupN, grpL, e97, ih, riseL]
    | false => simp [grpLs, groupN, grpL, grpL_seq, e97, ih, riseL]
theorem gN_size (bit : Nat → Bool) : ∀ k i, ndSize (gN bit k i) ≤ 3 * k
  | 0, i => by simp [gN, ndSize]
  | k + 1, i => by
    have ih := gN_size bit k (i + 1)
    have e97 : (runeN 97).size = 1 := rfl
    rw [gN]
    cases bit i with
    | true => simp only [if_true, ndSize, groupN, Nd.size, e97]; omega
    | false =>
      have := seq_size (runeN 97 :: gN bit k (i + 1))
      simp only [Bool.false_eq_true, if_false, ndSize, groupN, Nd.size]
      rw [this]
      split <;> simp only [ndSize, e97] <;> omega

theorem txt_piece (b : Bool) {s : ByteArray} {l : List Int} (h : Txt s l) : Txt (gPieceB b s) (l ++ gPiece b) := by
  cases b with
  | true =>
    have := (h.append (t := ⟨#[40, 97]⟩) (m := [40, 97]) (txt_of (by decide) (by decide))).append (t := ⟨#[41]⟩) (m := [41]) (txt_of (by decide) (by decide))
    simpa [gPieceB, gPiece] using this
  | false =>
    have := h.append (t := ⟨#[40, 97]⟩) (m := [40, 97]) (txt_of (by decide) (by decide))
    simpa [gPieceB, gPiece] using this
theorem txt_gS (bit : Nat → Bool) : ∀ k i {s : ByteArray} {l : List Int}, Txt s l → Txt (gS bit k i s) (l ++ gT bit k i)
  | 0, i, s, l, h => by simpa [gS, gT] using h
  | k + 1, i, s, l, h => by
    have := txt_gS bit k (i + 1) (txt_piece (bit i) h)
    simpa [gS, gT] using this
theorem txt_close : ∀ n {s : ByteArray} {l : List Int}, Txt s l → Txt (repB ⟨#[41]⟩ n s) (l ++ List.replicate n 41)
  | 0, s, l, h => by simpa [repB] using h
  | n + 1, s, l, h => by
    have := txt_close n (h.append (t := ⟨#[41]⟩) (m := [41]) (txt_of (by decide) (by decide)))
    simpa [repB, List.replicate_succ] using this
theorem txt_groupsB (bit : Nat → Bool) (n : Nat) : Txt (groupsB bit n) (gT bit n 0 ++ List.replicate (gOpen bit n 0) 41) := by
  have := txt_close (gOpen bit n 0) (txt_gS bit n 0 .nil)
  simpa [groupsB] using this
theorem gPieceB_size (b : Bool) (s : ByteArray) : (gPieceB b s).size ≤ s.size + 3 := by
  have e1 : (⟨#[40, 97]⟩ : ByteArray).size = 2 := rfl
  have e2 : (⟨#[41]⟩ : ByteArray).size = 1 := rfl
  cases b <;> simp [gPieceB, ByteArray.size_append, e1, e2]
theorem gS_size (bit : Nat → Bool) : ∀ k i s, (gS bit k i s).size ≤ s.size + 3 * k
  | 0, i, s => by simp [gS]
  | k + 1, i, s => by
    have := gS_size bit k (i + 1) (gPieceB (bit i) s)
    have := gPieceB_size (bit i) s
    rw [gS]; omega
theorem gOpen_le (bit : Nat → Bool) : ∀ k i, gOpen bit k i ≤ k
  | 0, i => by simp [gOpen]
  | k + 1, i => by
    have := gOpen_le bit k (i + 1)
    rw [gOpen]; split <;> omega
theorem groupsB_size (bit : Nat → Bool) (n : Nat) : (groupsB bit n).size ≤ 4 * n := by
  rw [groupsB, repB_size]
  have h1 := gS_size bit n 0 ⟨#[]⟩
  have h2 := gOpen_le bit n 0
  have e1 : (⟨#[41]⟩ : ByteArray).size = 1 := rfl
  have e0 : (⟨#[]⟩ : ByteArray).size = 0 := rfl
  rw [e1]; omega

theorem groups_good (bit : Nat → Bool) {n : Nat} (hn : n ≤ 8) :
    parse3 (groupsB bit n) = (seqN (gN bit n 0), ((groupsB bit n).size : Int), 0) ∧ (seqN (gN bit n 0)).groups = (n : Int) ∧ orderedI (grpL (seqN (gN bit n 0))) = (n : Int) ∧ (seqN (gN bit n 0)).size ≤ 1000000 := by
  have hz := groupsB_size bit n
  have hnum := gN_num bit n 0
  rw [Nat.zero_add] at hnum
  obtain ⟨h1, _⟩ := seq_parse (gN_pc bit n 0) hnum (by omega) (by rw [gN_put]; exact txt_groupsB bit n) (by omega)
  refine ⟨h1, ?_, ?_, ?_⟩
  · rw [seq_groups, gN_groups bit n 0 0 (by decide) (by decide)]
    split <;> omega
  · rw [grpL_seq, gN_grp, orderedI, if_pos (riseL_rises n 0).1, (riseL_rises n 0).2]
  · have := gN_size bit n 0
    rw [seq_size]; split <;> omega
end Go.Av

namespace Go.Av
open Go.RowKit

/-! ### where the ninth group begins -/
theorem pos_ascii (s : ByteArray) : ∀ (l : List Int) (k i : Nat), (∀ r ∈ l, 0 ≤ r ∧ r < 128) → s.data.toList.drop i = l.flatMap unitL → s.size - i < k → ∀ j, j < l.length → ((charsF s k i)[j]?).map Ch.pos = some ((i + j : Nat) : Int)
  | [], k, i, _, _, _, j, hj => by cases hj
  | r :: l, 0, i, _, _, hk, j, hj => by omega
  | r :: l, k + 1, i, hu, h, hk, j, hj => by
    have hr := hu r (by simp)
    have hok : okR r = true := by rw [okR_iff]; omega
    rw [List.flatMap_cons] at h
    obtain ⟨h1, h2, h3⟩ := chR_unit (.inr hok) h
    have hone : (unitL r).length = 1 := by
      have hne : r ≠ -1 := by omega
      simp only [unitL, if_neg hne]
      obtain ⟨c, hc, _, hx⟩ := encL_cases hok
      rw [hx, if_pos (by omega)]; rfl
    rw [hone] at h2
    have hd : s.data.toList.drop (i + 1) = l.flatMap unitL := by
      rw [← List.drop_drop, h]
      rw [List.drop_append_of_le_length (by omega), List.drop_of_length_le (by omega)]
      rfl
    simp only [charsF, h3, if_true, h2]
    rcases j with _ | j
    · simp
    · have := pos_ascii s l k (i + 1) (fun q hq => hu q (by simp [hq])) hd (by omega) j (by simpa using hj)
      rw [List.getElem?_cons_succ, this]
      congr 2; omega

theorem loop_head {pc : List Ch → Int → PR Nd} {m : Nat} {all one : List Nd} {cs : List Ch} {g a : Int} {l : List Int} (h : rsOf cs = a :: l) (h1 : a ≠ 41) (h2 : a ≠ 124) :
    exprLoop pc (m + 1) all one cs g = match pc cs g with
      | .error e => .error e
      | .ok (x, cs', g') => exprLoop pc m all (one ++ [x]) cs' g' := by
  have hp := peek_cons h
  have hl : 0 < cs.length := by rw [← rsOf_length, h]; simp
  have hb : eatB barB cs = false := by rw [bar_eq, eatB_one, hp]; simpa using h2
  have hc : (decide ((cs.length : Int) > 0) && !(peekOf cs == 41)) = true := by
    rw [hp]; simp [h1]; omega
  rw [exprLoop, if_pos hc, if_neg (by rw [hb]; decide)]
  cases pc cs g with
  | error e => rfl
  | ok p => rfl
theorem gT_head (bit : Nat → Bool) (k i : Nat) (tail : List Int) : ∃ l, gT bit k i ++ 40 :: 97 :: tail = 40 :: 97 :: l := by
  cases k with
  | zero => exact ⟨tail, rfl⟩
  | succ k =>
    rw [gT, gPiece]
    split
    · exact ⟨_, rfl⟩
    · exact ⟨_, rfl⟩

theorem grp_err (bit : Nat → Bool) (n : Int) : ∀ (d i : Nat), i + d = 8 → ∀ (K m : Nat) (all one : List Nd) (cs : List Ch) (tail : List Int), Runes cs → rsOf cs = gT bit d i ++ 40 :: 97 :: tail → cs.length ≤ K → cs.length < m →
    ∃ cs'', cs'' <:+ cs ∧ rsOf cs'' = 40 :: 97 :: tail ∧ exprLoop (pieceF (exprF K n) n) m all one cs (i : Nat) = .error (3, atOf cs'' n)
  | 0, i, hi, K, m, all, one, cs, tail, hv, h, hK, hm => by
    obtain rfl : i = 8 := by omega
    obtain ⟨m, rfl⟩ : ∃ q, m = q + 1 := ⟨m - 1, by omega⟩
    rw [gT, List.nil_append] at h
    refine ⟨cs, List.suffix_refl _, h, ?_⟩
    rw [loop_head h (by decide) (by decide)]
    have hd := drop_cons h
    rw [pieceF, paren_f h, groupF, if_neg (by rw [nonc_no (by rw [hd]; simp)]; decide), if_pos (by decide)]
  | d + 1, i, hi, K, m, all, one, cs, tail, hv, h, hK, hm => by
    obtain ⟨m, rfl⟩ : ∃ q, m = q + 1 := ⟨m - 1, by omega⟩
    have hgood : ∀ (k : Nat) (cs : List Ch) (g : Int), Runes cs → GoodE cs (exprF k n cs g) := fun k cs g hv => exprF_good k n cs g hv
    obtain ⟨l1, hl1⟩ := gT_head bit d (i + 1) tail
    rw [gT, gPiece, List.append_assoc, hl1] at h
    cases hb : bit i with
    | true =>
      rw [hb, if_pos rfl] at h
      have h' : rsOf cs = pieceI (groupN ((i + 1 : Nat) : Int) (runeN 97)) ++ 40 :: 97 :: l1 := by
        rw [(group_pc (rune_ok (by decide))).piece, put_group, put_rune97]; exact h
      have hg : Ok (groupN ((i + 1 : Nat) : Int) (runeN 97)) := (group_pc (rune_ok (by decide))).ok
      have hnum : num (groupN (i + 1 : Nat) (runeN 97)) (i : Nat) = some ((i + 1 : Nat) : Int) := by simp [groupN, num, nums, runeN, oneN]
      obtain ⟨cs', h1, h2⟩ := piece_got (exprF_got n K) n hg (by simp [groupN, Nd.kind]) (by simp [groupN, Nd.kind]) hnum (by omega) (by omega) h' (safe_cons (by decide) _) (by omega)
      have hsuf := (pieceF_good (hgood K) hv _ _ _ _ h1).1
      have hlen : cs'.length + 3 = cs.length := by
        rw [← rsOf_length cs', ← rsOf_length cs, h2, h]; simp
      rw [← hl1] at h2
      obtain ⟨c2, hs2, hr2, he2⟩ := grp_err bit n d (i + 1) (by omega) K m all (one ++ [groupN ((i + 1 : Nat) : Int) (runeN 97)]) cs' tail (hv.suf hsuf) h2 (by omega) (by omega)
      refine ⟨c2, hs2.trans hsuf, hr2, ?_⟩
      rw [loop_head (l := 97 :: 41 :: 40 :: 97 :: l1) h (by decide) (by decide), h1]
      exact he2
    | false =>
      rw [hb, if_neg (by decide)] at h
      have hpos : 0 < cs.length := by rw [← rsOf_length, h]; simp
      obtain ⟨K, rfl⟩ : ∃ q, K = q + 1 := ⟨K - 1, by omega⟩
      have hd := drop_cons (cs := cs) (l := 97 :: 40 :: 97 :: l1) h
      have hld : (cs.drop 1).length + 1 = cs.length := by
        rw [← rsOf_length (cs.drop 1), ← rsOf_length cs, hd, h]; rfl
      have hvd : Runes (cs.drop 1) := hv.suf (List.drop_suffix _ _)
      have h' : rsOf (cs.drop 1) = pieceI (runeN 97) ++ 40 :: 97 :: l1 := by
        rw [(rune_pc (r := 97) (by decide)).piece, put_rune97]; exact hd
      have hnum : num (runeN 97) ((i + 1 : Nat) : Int) = some ((i + 1 : Nat) : Int) := by simp [num, nums, runeN, oneN]
      obtain ⟨cs', h1, h2⟩ := piece_got (exprF_got n K) n (rune_ok (r := 97) (by decide)) (by simp [runeN, oneN, Nd.kind]) (by simp [runeN, oneN, Nd.kind]) hnum (by omega) (by omega) h' (safe_cons (by decide) _) (by omega)
      have hsuf := (pieceF_good (hgood K) hvd _ _ _ _ h1).1
      have hlen : cs'.length + 1 = (cs.drop 1).length := by
        rw [← rsOf_length cs', ← rsOf_length (cs.drop 1), h2, hd]; rfl
      rw [← hl1] at h2
      obtain ⟨c2, hs2, hr2, he2⟩ := grp_err bit n d (i + 1) (by omega) K (cs.drop 1).length [] ([] ++ [runeN 97]) cs' tail (hvd.suf hsuf) h2 (by omega) (by omega)
      refine ⟨c2, (hs2.trans hsuf).trans (List.drop_suffix _ _), hr2, ?_⟩
      have hex : exprF (K + 1) n (cs.drop 1) ((i + 1 : Nat) : Int) = .error (3, atOf c2 n) := by
        rw [exprF, loop_head hd (by decide) (by decide), h1]
        exact he2
      rw [loop_head (l := 97 :: 40 :: 97 :: l1) h (by decide) (by decide)]
      rw [pieceF, paren_f h, groupF, if_neg (by rw [nonc_no (by rw [hd]; simp)]; decide), if_neg (by omega)]
      rw [show ((i : Nat) : Int) + 1 = ((i + 1 : Nat) : Int) by omega, hex]
      rfl

theorem gT_add (bit : Nat → Bool) : ∀ a b i, gT bit (a + b) i = gT bit a i ++ gT bit b (i + a)
  | 0, b, i => by simp [gT]
  | a + 1, b, i => by
    rw [Nat.add_right_comm, gT, gT, gT_add bit a b (i + 1), List.append_assoc, Nat.add_right_comm i 1 a]; rfl
theorem gS_add (bit : Nat → Bool) : ∀ a b i s, gS bit (a + b) i s = gS bit b (i + a) (gS bit a i s)
  | 0, b, i, s => by simp [gS]
  | a + 1, b, i, s => by
    rw [Nat.add_right_comm, gS, gS, gS_add bit a b (i + 1), Nat.add_right_comm i 1 a]; rfl
theorem gT_small (bit : Nat → Bool) : ∀ k i, ∀ r ∈ gT bit k i, 0 ≤ r ∧ r < 128
  | 0, i, r, h => by cases h
  | k + 1, i, r, h => by
    rw [gT] at h
    rcases List.mem_append.1 h with h | h
    · have hp : ∀ b : Bool, ∀ q ∈ gPiece b, 0 ≤ q ∧ q < 128 := by decide
      exact hp _ r h
    · exact gT_small bit k (i + 1) r h
theorem small_units : ∀ l : List Int, (∀ r ∈ l, 0 ≤ r ∧ r < 128) → (l.flatMap unitL).length = l.length
  | [], _ => rfl
  | r :: l, h => by
    have hr := h r (by simp)
    have hok : okR r = true := by rw [okR_iff]; omega
    have hone : (unitL r).length = 1 := by
      have hne : r ≠ -1 := by omega
      simp only [unitL, if_neg hne]
      obtain ⟨c, hc, _, hx⟩ := encL_cases hok
      rw [hx, if_pos (by omega)]; rfl
    rw [List.flatMap_cons, List.length_append, hone, small_units l fun q hq => h q (by simp [hq]), List.length_cons]; omega

theorem groups_bad (bit : Nat → Bool) {n : Nat} (hn : 8 < n) (hn2 : n < 12) : parse3 (groupsB bit n) = (emptyN, ((gS bit 8 0 ⟨#[]⟩).size : Int), 3) := by
  have hz := groupsB_size bit n
  have ht := txt_groupsB bit n
  have hsm : ∀ r ∈ gT bit n 0 ++ List.replicate (gOpen bit n 0) 41, 0 ≤ r ∧ r < 128 := by
    intro r hr
    rcases List.mem_append.1 hr with hr | hr
    · exact gT_small bit n 0 r hr
    · rw [(List.mem_replicate.1 hr).2]; decide
  have h8 := txt_gS bit 8 0 .nil
  rw [List.nil_append] at h8
  have hlen8 : (gS bit 8 0 ⟨#[]⟩).size = (gT bit 8 0).length := by
    have := congrArg List.length h8.eq
    rw [small_units _ (gT_small bit 8 0)] at this
    simpa using this
  obtain ⟨e, he⟩ : ∃ e, n = 8 + (e + 1) := ⟨n - 9, by omega⟩
  obtain ⟨l1, hl1⟩ : ∃ l1, gT bit (e + 1) 8 ++ List.replicate (gOpen bit n 0) 41 = 40 :: 97 :: l1 := by
    rw [gT, gPiece]; split <;> exact ⟨_, rfl⟩
  have hL : gT bit n 0 ++ List.replicate (gOpen bit n 0) 41 = gT bit 8 0 ++ 40 :: 97 :: l1 := by
    rw [← hl1, ← List.append_assoc]
    congr 1
    rw [he, gT_add]
  have hcs := ht.chars
  rw [hL] at hcs
  obtain ⟨c2, hs2, hr2, he2⟩ := grp_err bit (groupsB bit n).size 8 0 rfl (charsOf (groupsB bit n)).length ((charsOf (groupsB bit n)).length + 1) [] [] (charsOf (groupsB bit n)) l1 (charsOf_runes _) hcs (Nat.le_refl _) (by omega)
  have hex : exprF ((charsOf (groupsB bit n)).length + 1) (groupsB bit n).size (charsOf (groupsB bit n)) 0 = .error (3, atOf c2 (groupsB bit n).size) := he2
  have hpos : atOf c2 (groupsB bit n).size = ((gS bit 8 0 ⟨#[]⟩).size : Int) := by
    obtain ⟨pre, hpre⟩ := hs2
    have hpl : pre.length = (gT bit 8 0).length := by
      have h1 := congrArg List.length hcs
      have h2 := congrArg List.length hr2
      have h3 := congrArg List.length hpre
      rw [rsOf_length] at h1 h2
      simp only [List.length_append, List.length_cons] at h1 h2 h3
      omega
    have hp := pos_ascii (groupsB bit n) _ ((groupsB bit n).size + 1) 0 hsm (by simpa using ht.eq) (by omega) (gT bit 8 0).length (by rw [hL]; simp)
    rw [show charsF (groupsB bit n) ((groupsB bit n).size + 1) 0 = charsOf (groupsB bit n) from rfl, ← hpre, List.getElem?_append_right (by omega), hpl, Nat.sub_self] at hp
    cases c2 with
    | nil => simp [rsOf] at hr2
    | cons c r =>
      simp only [List.getElem?_cons_zero, Option.map_some, Option.some.injEq] at hp
      rw [hlen8]
      simpa [atOf] using hp
  rw [hpos] at hex
  unfold parse3 parseF
  rw [if_neg (by omega), hex]
end Go.Av

namespace Go.Av
open Go.RowKit Go.Proofs.Tryz

theorem gOpen_add (bit : Nat → Bool) : ∀ a b i, gOpen bit (a + b) i = gOpen bit a i + gOpen bit b (i + a)
  | 0, b, i => by simp [gOpen]
  | a + 1, b, i => by
    rw [Nat.add_right_comm, gOpen, gOpen, gOpen_add bit a b (i + 1), Nat.add_right_comm i 1 a, Nat.add_assoc, Nat.add_assoc]
theorem gS_succ (bit : Nat → Bool) (i : Nat) (s : ByteArray) : gS bit (i + 1) 0 s = gPieceB (bit i) (gS bit i 0 s) := by
  rw [gS_add]; simp [gS]
theorem gOpen_succ (bit : Nat → Bool) (i : Nat) : gOpen bit (i + 1) 0 = gOpen bit i 0 + if bit i then 0 else 1 := by
  rw [gOpen_add]; simp [gOpen]
def ninthI (bit : Nat → Bool) (i : Nat) : Int := if 8 < i then ((gS bit 8 0 ⟨#[]⟩).size : Int) else 0

theorem f6_ok (many : Int) (l : List Bool) (hm : 0 ≤ many ∧ many < 256) : Ret prog 6 [.one (sct (.int .u8 many)), .one (.iv (.sl 1 (l.map boolRow)))] (.one (sct (.bool true))) := by
  obtain ⟨n, hn, en⟩ : ∃ n : Nat, n < 12 ∧ many.tmod 12 = n := ⟨(many.tmod 12).toNat, by have := Int.tmod_lt_of_pos many (show (0 : Int) < 12 by decide); have := Int.tmod_nonneg 12 hm.1; omega, by have := Int.tmod_nonneg 12 hm.1; omega⟩
  obtain ⟨bit, hbit⟩ : ∃ bit : Nat → Bool, bit = fun i => l.getD i false := ⟨_, rfl⟩
  have wn : IntKind.i64.wrap (n : Int) = n := wrap64 (by omega) (by omega)
  refine .of r6_ok (by simp) (.one (by simp)) (by simp [r6]) ?_
  simp only [r6, initTm, Nat.reduceAdd]
  simp -implicitDefEqProofs only [ev, ↓reduceIte, Nat.reduceAdd, Nat.reduceEqDiff, Nat.reduceSub, Nat.reduceBEq, Nat.reduceLeDiff, reduceCtorEq]
  refine acall_ret f9_ok ?_
  simp -implicitDefEqProofs only [ev, ↓reduceIte, Nat.reduceAdd, Nat.reduceEqDiff, Nat.reduceSub, Nat.reduceBEq, Nat.reduceLeDiff, reduceCtorEq, en, wn, awp_loop]
  refine ⟨by decide, ?_⟩
  refine aloop_mk (σ := Nat) (fun i => [(1, .one (.iv (.sl 1 (l.map boolRow)))), (5, .one (sct (.bool true))), (6, .one (sct (.int .i64 (n : Int)))), (7, .one (sct (.string (gS bit i 0 ⟨#[]⟩)))), (8, .one (sct (.int .i64 (gOpen bit i 0 : Nat)))), (9, .one (sct (.int .i64 (ninthI bit i)))), (10, .one (sct (.int .i64 (i : Nat))))])
    (fun _ => Hp.nil) (fun i => i ≤ n) (fun i => n - i) 0 (by simp) (wk_none ?_) ?_
  · simp only [wk, ↓reduceIte, Nat.reduceEqDiff, reduceCtorEq, Nat.reduceLT]
    simp [gS, gOpen, ninthI]
  rintro i hi
  have hS := gS_size bit i 0 ⟨#[]⟩
  rw [show (⟨#[]⟩ : ByteArray).size = 0 from rfl] at hS
  have hO := gOpen_le bit i 0
  have e2 : (⟨#[40, 97]⟩ : ByteArray).size = 2 := rfl
  have e1 : (⟨#[41]⟩ : ByteArray).size = 1 := rfl
  have wo : IntKind.i64.wrap ((gOpen bit i 0 : Nat) + 1) = ((gOpen bit i 0 + 1 : Nat) : Int) := wrap64 (by omega) (by omega)
  have wo2 : IntKind.i64.wrap (((gOpen bit i 0 + 1 : Nat) : Int) - 1) = ((gOpen bit i 0 : Nat) : Int) := by rw [wrap64 (by omega) (by omega)]; omega
  have wi : IntKind.i64.wrap ((i : Int) + 1) = ((i + 1 : Nat) : Int) := wrap64 (by omega) (by omega)
  simp only [r6_l0]
  simp -implicitDefEqProofs only [ev, ↓reduceIte, Nat.reduceAdd, Nat.reduceEqDiff, Nat.reduceSub, Nat.reduceBEq, Nat.reduceLeDiff, reduceCtorEq]
  refine .mk (fun h => ?_) (fun h => ?_)
  · have hlt : i < n := by have := of_decide_eq_true h; omega
    simp -implicitDefEqProofs only [ev, ↓reduceIte, Nat.reduceAdd, Nat.reduceEqDiff, Nat.reduceSub, Nat.reduceBEq, Nat.reduceLeDiff, reduceCtorEq]
    cases h8 : ((i : Int) == 8) with
    | true =>
      have hN9 : ninthI bit (i + 1) = ((gS bit i 0 ⟨#[]⟩).size : Int) := by
        obtain rfl : i = 8 := by have := eq_of_beq h8; omega
        simp [ninthI]
      simp -implicitDefEqProofs only [ev, ↓reduceIte, Nat.reduceAdd, Nat.reduceEqDiff, Nat.reduceSub, Nat.reduceBEq, Nat.reduceLeDiff, reduceCtorEq, h8]
      refine ⟨by omega, ?_⟩
      refine .mk fun hb => ?_
      simp -implicitDefEqProofs only [ev, ↓reduceIte, Nat.reduceAdd, Nat.reduceEqDiff, Nat.reduceSub, Nat.reduceBEq, Nat.reduceLeDiff, reduceCtorEq, wo]
      refine .mk (fun h2 => ?_) (fun h2 => ?_)
      · have hlt2 : i < l.length := by simpa using h2
        have hx := List.getElem?_eq_getElem hlt2
        have hbi : bit i = l[i] := by rw [hbit]; simp [List.getD, hx]
        generalize l[i] = b at hx hbi
        simp -implicitDefEqProofs only [ev, ↓reduceIte, Nat.reduceAdd, Nat.reduceEqDiff, Nat.reduceSub, Nat.reduceBEq, Nat.reduceLeDiff, reduceCtorEq, List.getElem?_map, hx, boolRow, Int.natCast_nonneg]
        cases b with
        | true =>
          simp -implicitDefEqProofs only [ev, ↓reduceIte, Nat.reduceAdd, Nat.reduceEqDiff, Nat.reduceSub, Nat.reduceBEq, Nat.reduceLeDiff, reduceCtorEq, wo2]
          refine ⟨by rw [ByteArray.size_append]; omega, ?_⟩
          refine ⟨i + 1, by omega, by omega, wk_none ?_⟩
          rw [wi, gS_succ, gOpen_succ, hbi, hN9]
          simp only [wk, ↓reduceIte, Nat.reduceEqDiff, reduceCtorEq, Nat.reduceLT]
          simp [gPieceB]
        | false =>
          simp -implicitDefEqProofs only [ev, ↓reduceIte, Nat.reduceAdd, Nat.reduceEqDiff, Nat.reduceSub, Nat.reduceBEq, Nat.reduceLeDiff, reduceCtorEq]
          refine ⟨i + 1, by omega, by omega, wk_none ?_⟩
          rw [wi, gS_succ, gOpen_succ, hbi, hN9]
          simp only [wk, ↓reduceIte, Nat.reduceEqDiff, reduceCtorEq, Nat.reduceLT]
          simp [gPieceB]
      · have hbi : bit i = false := by
          have : l.length ≤ i := by have := of_decide_eq_false h2; omega
          rw [hbit]; simp [List.getD, List.getElem?_eq_none this]
        simp -implicitDefEqProofs only [ev, ↓reduceIte, Nat.reduceAdd, Nat.reduceEqDiff, Nat.reduceSub, Nat.reduceBEq, Nat.reduceLeDiff, reduceCtorEq]
        refine ⟨i + 1, by omega, by omega, wk_none ?_⟩
        rw [wi, gS_succ, gOpen_succ, hbi, hN9]
        simp only [wk, ↓reduceIte, Nat.reduceEqDiff, reduceCtorEq, Nat.reduceLT]
        simp [gPieceB]
    | false =>
      have hN9 : ninthI bit (i + 1) = ninthI bit i := by
        have : i ≠ 8 := by intro e; subst e; simp at h8
        unfold ninthI
        split <;> split <;> first | rfl | omega
      simp -implicitDefEqProofs only [ev, ↓reduceIte, Nat.reduceAdd, Nat.reduceEqDiff, Nat.reduceSub, Nat.reduceBEq, Nat.reduceLeDiff, reduceCtorEq, h8]
      refine ⟨by omega, ?_⟩
      refine .mk fun hb => ?_
      simp -implicitDefEqProofs only [ev, ↓reduceIte, Nat.reduceAdd, Nat.reduceEqDiff, Nat.reduceSub, Nat.reduceBEq, Nat.reduceLeDiff, reduceCtorEq, wo]
      refine .mk (fun h2 => ?_) (fun h2 => ?_)
      · have hlt2 : i < l.length := by simpa using h2
        have hx := List.getElem?_eq_getElem hlt2
        have hbi : bit i = l[i] := by rw [hbit]; simp [List.getD, hx]
        generalize l[i] = b at hx hbi
        simp -implicitDefEqProofs only [ev, ↓reduceIte, Nat.reduceAdd, Nat.reduceEqDiff, Nat.reduceSub, Nat.reduceBEq, Nat.reduceLeDiff, reduceCtorEq, List.getElem?_map, hx, boolRow, Int.natCast_nonneg]
        cases b with
        | true =>
          simp -implicitDefEqProofs only [ev, ↓reduceIte, Nat.reduceAdd, Nat.reduceEqDiff, Nat.reduceSub, Nat.reduceBEq, Nat.reduceLeDiff, reduceCtorEq, wo2]
          refine ⟨by rw [ByteArray.size_append]; omega, ?_⟩
          refine ⟨i + 1, by omega, by omega, wk_none ?_⟩
          rw [wi, gS_succ, gOpen_succ, hbi, hN9]
          simp only [wk, ↓reduceIte, Nat.reduceEqDiff, reduceCtorEq, Nat.reduceLT]
          simp [gPieceB]
        | false =>
          simp -implicitDefEqProofs only [ev, ↓reduceIte, Nat.reduceAdd, Nat.reduceEqDiff, Nat.reduceSub, Nat.reduceBEq, Nat.reduceLeDiff, reduceCtorEq]
          refine ⟨i + 1, by omega, by omega, wk_none ?_⟩
          rw [wi, gS_succ, gOpen_succ, hbi, hN9]
          simp only [wk, ↓reduceIte, Nat.reduceEqDiff, reduceCtorEq, Nat.reduceLT]
          simp [gPieceB]
      · have hbi : bit i = false := by
          have : l.length ≤ i := by have := of_decide_eq_false h2; omega
          rw [hbit]; simp [List.getD, List.getElem?_eq_none this]
        simp -implicitDefEqProofs only [ev, ↓reduceIte, Nat.reduceAdd, Nat.reduceEqDiff, Nat.reduceSub, Nat.reduceBEq, Nat.reduceLeDiff, reduceCtorEq]
        refine ⟨i + 1, by omega, by omega, wk_none ?_⟩
        rw [wi, gS_succ, gOpen_succ, hbi, hN9]
        simp only [wk, ↓reduceIte, Nat.reduceEqDiff, reduceCtorEq, Nat.reduceLT]
        simp [gPieceB]
  · obtain rfl : i = n := by have := of_decide_eq_false h; omega
    simp -implicitDefEqProofs only [ev, ↓reduceIte, Nat.reduceAdd, Nat.reduceEqDiff, Nat.reduceSub, Nat.reduceBEq, Nat.reduceLeDiff, reduceCtorEq, awp_loop]
    obtain ⟨G, hG⟩ : ∃ G, groupsB bit i = G := ⟨_, rfl⟩
    refine aloop_mk (σ := Nat × ByteArray) (fun q => [(5, .one (sct (.bool true))), (6, .one (sct (.int .i64 (i : Int)))), (7, .one (sct (.string q.2))), (8, .one (sct (.int .i64 (gOpen bit i 0 : Nat)))), (9, .one (sct (.int .i64 (ninthI bit i)))), (11, .one (sct (.int .i64 (q.1 : Nat))))])
      (fun _ => Hp.nil) (fun q => q.1 ≤ gOpen bit i 0 ∧ q.2.size ≤ 36 + q.1 ∧ repB ⟨#[41]⟩ (gOpen bit i 0 - q.1) q.2 = G) (fun q => gOpen bit i 0 - q.1) (0, gS bit i 0 ⟨#[]⟩) ⟨by simp, by simp only; omega, hG⟩ (wk_none ?_) ?_
    · simp only [wk, ↓reduceIte, Nat.reduceEqDiff, reduceCtorEq, Nat.reduceLT]
      simp
    rintro ⟨j, out⟩ ⟨hj, hsz, hF⟩
    simp only at hj hsz hF
    simp only [r6_l1]
    simp -implicitDefEqProofs only [ev, ↓reduceIte, Nat.reduceAdd, Nat.reduceEqDiff, Nat.reduceSub, Nat.reduceBEq, Nat.reduceLeDiff, reduceCtorEq]
    refine .mk (fun h => ?_) (fun h => ?_)
    · have hlt : j < gOpen bit i 0 := by have := of_decide_eq_true h; omega
      simp -implicitDefEqProofs only [ev, ↓reduceIte, Nat.reduceAdd, Nat.reduceEqDiff, Nat.reduceSub, Nat.reduceBEq, Nat.reduceLeDiff, reduceCtorEq]
      refine ⟨by omega, ⟨(j + 1, out ++ ⟨#[41]⟩), ⟨by simp only; omega, by simp only [ByteArray.size_append]; omega, ?_⟩, by simp only; omega, wk_none ?_⟩⟩
      · simp only
        rw [show gOpen bit i 0 - j = (gOpen bit i 0 - (j + 1)) + 1 by omega] at hF
        exact hF
      · rw [wrap64 (by omega) (by omega)]
        simp only [wk, ↓reduceIte, Nat.reduceEqDiff, reduceCtorEq, Nat.reduceLT]
        simp
    · have hge : gOpen bit i 0 - j = 0 := by have := of_decide_eq_false h; omega
      rw [hge] at hF
      obtain rfl : out = G := hF
      simp -implicitDefEqProofs only [ev, ↓reduceIte, Nat.reduceAdd, Nat.reduceEqDiff, Nat.reduceSub, Nat.reduceBEq, Nat.reduceLeDiff, reduceCtorEq]
      rcases Nat.lt_or_ge 8 i with h8 | h8
      · have hp := groups_bad bit h8 hn
        rw [hG] at hp
        have pA := ret_parse hp
        simp only [emptyN, encN_mk] at pA
        have h8d : decide ((i : Int) > 8) = true := by simp; omega
        have h33 : ((3 : Int) == 3) = true := rfl
        have hnn : ninthI bit i = ((gS bit 8 0 ⟨#[]⟩).size : Int) := if_pos h8
        refine acall_ret pA ?_
        simp -implicitDefEqProofs only [ev, ↓reduceIte, Nat.reduceAdd, Nat.reduceEqDiff, Nat.reduceSub, Nat.reduceBEq, Nat.reduceLeDiff, reduceCtorEq, h8d, h33, hnn]
        exact fin_same (.one (by simp)) ⟨rfl, rfl⟩
      · obtain ⟨hp, hg1, hg2, hg3⟩ := groups_good bit h8
        rw [hG] at hp
        have pA := ret_parse hp
        have pG := f22_ok (seqN (gN bit i 0))
        have pO := f24_ok (seqN (gN bit i 0)) hg3
        rw [hg1] at pG
        rw [hg2] at pO
        generalize seqN (gN bit i 0) = x at pA pG pO
        have h8d : decide ((i : Int) > 8) = false := by simp; omega
        have h00 : ((0 : Int) == 0) = true := rfl
        cases x with
        | mk k c a b z m ks =>
        simp only [encN_mk] at pA
        simp only [Nd.cells, List.map_cons, List.map_nil] at pG pO
        refine acall_ret pA ?_
        simp -implicitDefEqProofs only [ev, ↓reduceIte, Nat.reduceAdd, Nat.reduceEqDiff, Nat.reduceSub, Nat.reduceBEq, Nat.reduceLeDiff, reduceCtorEq, h8d, h00]
        refine acall_ret pG ?_
        simp -implicitDefEqProofs only [ev, ↓reduceIte, Nat.reduceAdd, Nat.reduceEqDiff, Nat.reduceSub, Nat.reduceBEq, Nat.reduceLeDiff, reduceCtorEq]
        refine acall_ret pO ?_
        simp -implicitDefEqProofs only [ev, ↓reduceIte, Nat.reduceAdd, Nat.reduceEqDiff, Nat.reduceSub, Nat.reduceBEq, Nat.reduceLeDiff, reduceCtorEq]
        exact fin_same (.one (by simp)) ⟨rfl, rfl⟩
end Go.Av

