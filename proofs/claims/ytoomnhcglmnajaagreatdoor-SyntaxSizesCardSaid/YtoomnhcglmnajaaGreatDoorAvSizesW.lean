/-
  The walk of the law of sizes; no condition.
-/
import Derived.Test.YtoomnhcglmnajaaGreatDoorAvThree
import Derived.Test.YtoomnhcglmnajaaGreatDoorAvFrame
import Derived.Test.YtoomnhcglmnajaaGreatDoorAvSeq
set_option linter.unusedVariables false
set_option linter.unusedSimpArgs false
namespace Go.Av
open Go.RowKit Go.Proofs.Tryz

theorem f7_ok (a b c : Int) (ha : 0 ≤ a ∧ a < 256) (hb : 0 ≤ b ∧ b < 256) (hc : 0 ≤ c ∧ c < 256) : Ret prog 7 [.one (sct (.int .u8 a)), .one (sct (.int .u8 b)), .one (sct (.int .u8 c))] (.one (sct (.bool true))) := by
  obtain ⟨n, hn, en⟩ : ∃ n : Nat, n < 10 ∧ a.tmod 10 = n := ⟨(a.tmod 10).toNat, by have := Int.tmod_lt_of_pos a (show (0 : Int) < 10 by decide); have := Int.tmod_nonneg 10 ha.1; omega, by have := Int.tmod_nonneg 10 ha.1; omega⟩
  obtain ⟨m, hm, em⟩ : ∃ n : Nat, n < 9 ∧ b.tmod 9 = n := ⟨(b.tmod 9).toNat, by have := Int.tmod_lt_of_pos b (show (0 : Int) < 9 by decide); have := Int.tmod_nonneg 9 hb.1; omega, by have := Int.tmod_nonneg 9 hb.1; omega⟩
  obtain ⟨k, hk, ek⟩ : ∃ n : Nat, n < 10 ∧ c.tmod 10 = n := ⟨(c.tmod 10).toNat, by have := Int.tmod_lt_of_pos c (show (0 : Int) < 10 by decide); have := Int.tmod_nonneg 10 hc.1; omega, by have := Int.tmod_nonneg 10 hc.1; omega⟩
  obtain ⟨h1, h2, h3, h4, h5⟩ := sizes_facts (n := n + 2) (m := m) (k := k) (by omega) (by omega) hm hk
  have pA := ret_parse h1
  have pP := f13_ok _ (ok_put h3) (by rw [h4]; omega)
  have pS := f20_ok (seqN (sizesN (n + 2) m k)) (by rw [h4]; omega)
  have pG := f22_ok (seqN (sizesN (n + 2) m k))
  rw [h2] at pP
  rw [h4] at pS
  rw [h5] at pG
  clear h1 h2 h3 h4 h5
  generalize seqN (sizesN (n + 2) m k) = x at pA pP pS pG
  obtain ⟨R, hR⟩ : ∃ R, sizesB (n + 2) m k = R := ⟨_, rfl⟩
  rw [hR] at pA pP
  refine .of r7_ok (by simp) (.one (by simp)) (by simp [r7]) ?_
  simp only [r7, initTm, Nat.reduceAdd]
  simp -implicitDefEqProofs only [ev, ↓reduceIte, Nat.reduceAdd, Nat.reduceEqDiff, Nat.reduceSub, Nat.reduceBEq, Nat.reduceLeDiff, reduceCtorEq]
  refine acall_ret f9_ok ?_
  have wn : IntKind.i64.wrap (n : Int) = n := wrap64 (by omega) (by omega)
  have wn2 : IntKind.i64.wrap (2 + (n : Int)) = ((n + 2 : Nat) : Int) := by rw [wrap64 (by omega) (by omega)]; omega
  have wm : IntKind.i64.wrap (m : Int) = m := wrap64 (by omega) (by omega)
  have wk_ : IntKind.i64.wrap (k : Int) = k := wrap64 (by omega) (by omega)
  simp -implicitDefEqProofs only [ev, ↓reduceIte, Nat.reduceAdd, Nat.reduceEqDiff, Nat.reduceSub, Nat.reduceBEq, Nat.reduceLeDiff, reduceCtorEq, en, em, ek, wn, wn2, wm, wk_, awp_loop]
  refine ⟨by decide, by decide, by decide, ?_⟩
  obtain ⟨R1, hR1⟩ : ∃ R1, repB ⟨#[97]⟩ (n + 2) ⟨#[]⟩ = R1 := ⟨_, rfl⟩
  obtain ⟨R2, hR2⟩ : ∃ R2, repB ⟨#[40, 98, 41]⟩ m R1 = R2 := ⟨_, rfl⟩
  have hR3 : quantsB k 0 R2 = R := by rw [← hR, ← hR2, ← hR1]; rfl
  have z1 : R1.size ≤ 12 := by rw [← hR1, repB_size]; show 0 + (n + 2) * 1 ≤ 12; omega
  have z2 : R2.size ≤ 40 := by rw [← hR2, repB_size]; show R1.size + m * 3 ≤ 40; omega
  refine aloop_mk (σ := Nat × ByteArray) (fun p => [(7, .one (sct (.bool true))), (8, .one (sct (.int .i64 ((n + 2 : Nat) : Int)))), (9, .one (sct (.int .i64 (m : Int)))), (10, .one (sct (.int .i64 (k : Int)))), (11, .one (sct (.string p.2))), (12, .one (sct (.int .i64 (p.1 : Nat))))])
    (fun _ => Hp.nil) (fun p => p.1 ≤ n + 2 ∧ p.2.size ≤ p.1 ∧ repB ⟨#[97]⟩ (n + 2 - p.1) p.2 = R1) (fun p => n + 2 - p.1) (0, ⟨#[]⟩) ⟨by simp, by decide, hR1⟩ (wk_none ?_) ?_
  · simp only [wk, ↓reduceIte, Nat.reduceEqDiff, reduceCtorEq, Nat.reduceLT]
    simp
  rintro ⟨i, out⟩ ⟨hi, hsz, hF⟩
  simp only at hi hsz hF
  simp only [r7_l0]
  simp -implicitDefEqProofs only [ev, ↓reduceIte, Nat.reduceAdd, Nat.reduceEqDiff, Nat.reduceSub, Nat.reduceBEq, Nat.reduceLeDiff, reduceCtorEq]
  refine .mk (fun h => ?_) (fun h => ?_)
  · simp -implicitDefEqProofs only [ev, ↓reduceIte, Nat.reduceAdd, Nat.reduceEqDiff, Nat.reduceSub, Nat.reduceBEq, Nat.reduceLeDiff, reduceCtorEq]
    have hlt : i < n + 2 := by have := of_decide_eq_true h; omega
    have e : (⟨#[97]⟩ : ByteArray).size = 1 := rfl
    refine ⟨by omega, ⟨(i + 1, out ++ ⟨#[97]⟩), ⟨by simp only; omega, by simp only [ByteArray.size_append, e]; omega, ?_⟩, by simp only; omega, wk_none ?_⟩⟩
    · simp only
      rw [show n + 2 - i = (n + 2 - (i + 1)) + 1 by omega] at hF
      exact hF
    · rw [wrap64 (by omega) (by omega)]
      simp only [wk, ↓reduceIte, Nat.reduceEqDiff, reduceCtorEq, Nat.reduceLT]
      simp
  have hge : n + 2 - i = 0 := by have := of_decide_eq_false h; omega
  rw [hge] at hF
  obtain rfl : out = R1 := hF
  clear hge h hsz hi
  simp -implicitDefEqProofs only [ev, ↓reduceIte, Nat.reduceAdd, Nat.reduceEqDiff, Nat.reduceSub, Nat.reduceBEq, Nat.reduceLeDiff, reduceCtorEq, awp_loop]
  refine aloop_mk (σ := Nat × ByteArray) (fun p => [(7, .one (sct (.bool true))), (8, .one (sct (.int .i64 ((n + 2 : Nat) : Int)))), (9, .one (sct (.int .i64 (m : Int)))), (10, .one (sct (.int .i64 (k : Int)))), (11, .one (sct (.string p.2))), (13, .one (sct (.int .i64 (p.1 : Nat))))])
    (fun _ => Hp.nil) (fun p => p.1 ≤ m ∧ p.2.size ≤ 12 + 3 * p.1 ∧ repB ⟨#[40, 98, 41]⟩ (m - p.1) p.2 = R2) (fun p => m - p.1) (0, out) ⟨by simp, by simp only; omega, hR2⟩ (wk_none ?_) ?_
  · simp only [wk, ↓reduceIte, Nat.reduceEqDiff, reduceCtorEq, Nat.reduceLT]
    simp
  rintro ⟨j, out2⟩ ⟨hj, hsz, hF⟩
  simp only at hj hsz hF
  simp only [r7_l1]
  simp -implicitDefEqProofs only [ev, ↓reduceIte, Nat.reduceAdd, Nat.reduceEqDiff, Nat.reduceSub, Nat.reduceBEq, Nat.reduceLeDiff, reduceCtorEq]
  refine .mk (fun h => ?_) (fun h => ?_)
  · simp -implicitDefEqProofs only [ev, ↓reduceIte, Nat.reduceAdd, Nat.reduceEqDiff, Nat.reduceSub, Nat.reduceBEq, Nat.reduceLeDiff, reduceCtorEq]
    have hlt : j < m := by have := of_decide_eq_true h; omega
    have e : (⟨#[40, 98, 41]⟩ : ByteArray).size = 3 := rfl
    refine ⟨by omega, ⟨(j + 1, out2 ++ ⟨#[40, 98, 41]⟩), ⟨by simp only; omega, by simp only [ByteArray.size_append, e]; omega, ?_⟩, by simp only; omega, wk_none ?_⟩⟩
    · simp only
      rw [show m - j = (m - (j + 1)) + 1 by omega] at hF
      exact hF
    · rw [wrap64 (by omega) (by omega)]
      simp only [wk, ↓reduceIte, Nat.reduceEqDiff, reduceCtorEq, Nat.reduceLT]
      simp
  have hge : m - j = 0 := by have := of_decide_eq_false h; omega
  rw [hge] at hF
  obtain rfl : out2 = R2 := hF
  clear hge h hsz hj
  simp -implicitDefEqProofs only [ev, ↓reduceIte, Nat.reduceAdd, Nat.reduceEqDiff, Nat.reduceSub, Nat.reduceBEq, Nat.reduceLeDiff, reduceCtorEq, awp_loop]
  refine aloop_mk (σ := Nat × ByteArray) (fun p => [(7, .one (sct (.bool true))), (8, .one (sct (.int .i64 ((n + 2 : Nat) : Int)))), (9, .one (sct (.int .i64 (m : Int)))), (10, .one (sct (.int .i64 (k : Int)))), (11, .one (sct (.string p.2))), (14, .one (sct (.int .i64 (p.1 : Nat))))])
    (fun _ => Hp.nil) (fun p => p.1 ≤ k ∧ p.2.size ≤ 40 + 4 * p.1 ∧ quantsB (k - p.1) p.1 p.2 = R) (fun p => k - p.1) (0, out2) ⟨by simp, by simp only; omega, hR3⟩ (wk_none ?_) ?_
  · simp only [wk, ↓reduceIte, Nat.reduceEqDiff, reduceCtorEq, Nat.reduceLT]
    simp
  rintro ⟨t, out3⟩ ⟨ht, hsz, hF⟩
  simp only at ht hsz hF
  simp only [r7_l2]
  simp -implicitDefEqProofs only [ev, ↓reduceIte, Nat.reduceAdd, Nat.reduceEqDiff, Nat.reduceSub, Nat.reduceBEq, Nat.reduceLeDiff, reduceCtorEq]
  refine .mk (fun h => ?_) (fun h => ?_)
  · have hlt : t < k := by have := of_decide_eq_true h; omega
    have ht4 : (t : Int).tmod 4 = ((t % 4 : Nat) : Int) := rfl
    have hg : ([[IV.sc (.string ⟨#[99, 42]⟩)], [IV.sc (.string ⟨#[99, 43, 63]⟩)], [IV.sc (.string ⟨#[99, 123, 50, 125]⟩)], [IV.sc (.string ⟨#[99, 63, 63]⟩)]] : List (List IV))[t % 4]? = some [IV.sc (.string (quantB.getD (t % 4) ⟨#[]⟩))] := by
      have : t % 4 = 0 ∨ t % 4 = 1 ∨ t % 4 = 2 ∨ t % 4 = 3 := by omega
      rcases this with e | e | e | e <;> rw [e] <;> rfl
    have hqs := quantB_size t
    simp -implicitDefEqProofs only [ev, ↓reduceIte, Nat.reduceAdd, Nat.reduceEqDiff, Nat.reduceSub, Nat.reduceBEq, Nat.reduceLeDiff, reduceCtorEq, ht4, hg]
    refine ⟨by decide, by omega, by omega, ⟨(t + 1, out3 ++ quantB.getD (t % 4) ⟨#[]⟩), ⟨by simp only; omega, by simp only [ByteArray.size_append]; omega, ?_⟩, by simp only; omega, wk_none ?_⟩⟩
    · simp only
      rw [show k - t = (k - (t + 1)) + 1 by omega] at hF
      exact hF
    · rw [wrap64 (by omega) (by omega)]
      simp only [wk, ↓reduceIte, Nat.reduceEqDiff, reduceCtorEq, Nat.reduceLT]
      simp
  have hge : k - t = 0 := by have := of_decide_eq_false h; omega
  rw [hge] at hF
  obtain rfl : out3 = R := hF
  clear hge h hsz ht
  simp -implicitDefEqProofs only [ev, ↓reduceIte, Nat.reduceAdd, Nat.reduceEqDiff, Nat.reduceSub, Nat.reduceBEq, Nat.reduceLeDiff, reduceCtorEq]
  cases x with
  | mk K c' a' b' z' m' ks =>
  simp only [encN_mk] at pA
  simp only [Nd.cells, List.map_cons, List.map_nil] at pP pS pG
  have hz : ((0 : Int) == 0) = true := rfl
  refine acall_ret pA ?_
  simp -implicitDefEqProofs only [ev, ↓reduceIte, Nat.reduceAdd, Nat.reduceEqDiff, Nat.reduceSub, Nat.reduceBEq, Nat.reduceLeDiff, reduceCtorEq, hz]
  refine acall_ret pS ?_
  have hq : (((1 + (n + 2) + 2 * m + 2 * k : Nat) : Int) == IntKind.i64.wrap (IntKind.i64.wrap (IntKind.i64.wrap (1 + ((n + 2 : Nat) : Int)) + IntKind.i64.wrap (2 * (m : Int))) + IntKind.i64.wrap (2 * (k : Int)))) = true := by
    rw [wrap64 (n := 1 + ((n + 2 : Nat) : Int)) (by omega) (by omega), wrap64 (n := 2 * (m : Int)) (by omega) (by omega), wrap64 (n := 2 * (k : Int)) (by omega) (by omega), wrap64 (n := 1 + ((n + 2 : Nat) : Int) + 2 * (m : Int)) (by omega) (by omega), wrap64 (by omega) (by omega)]
    rw [beq_iff_eq]; omega
  simp -implicitDefEqProofs only [ev, ↓reduceIte, Nat.reduceAdd, Nat.reduceEqDiff, Nat.reduceSub, Nat.reduceBEq, Nat.reduceLeDiff, reduceCtorEq, hq]
  refine acall_ret pG ?_
  simp -implicitDefEqProofs only [ev, ↓reduceIte, Nat.reduceAdd, Nat.reduceEqDiff, Nat.reduceSub, Nat.reduceBEq, Nat.reduceLeDiff, reduceCtorEq]
  refine acall_ret pP ?_
  have tt : (out3.toList == out3.toList) = true := beq_self_eq_true _
  simp -implicitDefEqProofs only [ev, ↓reduceIte, Nat.reduceAdd, Nat.reduceEqDiff, Nat.reduceSub, Nat.reduceBEq, Nat.reduceLeDiff, reduceCtorEq, tt]
  exact fin_same (.one (by simp)) ⟨rfl, rfl⟩
end Go.Av

