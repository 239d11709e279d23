/-
  Put and what it reaches; no condition.
-/
import Derived.Test.YtoomnhcglmnajaaGreatDoorAvThree
import Derived.Test.YtoomnhcglmnajaaGreatDoorAvCode
import Derived.Test.YtoomnhcglmnajaaGreatDoorAvSeven
import Derived.Laws.Cover4
set_option linter.unusedVariables false
set_option linter.unusedSimpArgs false
namespace Go.Av
open Go.RowKit Go.Proofs.Tryz

theorem f75_ok (r : Int) : Ret prog 75 [.one (sct (.int .i32 r))] (.one (sct (.string (Utf8.encode r)))) := by
  refine .of r75_ok (by simp) (.one (by simp)) (by simp [r75]) ?_
  simp only [oo, on, og, om, ol, oh, zN, ci, r75, initTm, Nat.reduceAdd]
  simp -implicitDefEqProofs only [ev, ↓reduceIte, Nat.reduceAdd, Nat.reduceEqDiff, Nat.reduceLeDiff, reduceCtorEq]
  exact fin_same (.one (by simp)) ⟨rfl, rfl⟩

def escB (r : Int) (some_ : ByteArray) : ByteArray := if isR r some_ then ⟨#[92]⟩ ++ Utf8.encode r else Utf8.encode r

theorem f54_ok (s : ByteArray) (hs : Ascii s) (r : Int) : Ret prog 54 [.one (sct (.int .i32 r)), .one (sct (.string s))] (.one (sct (.string (escB r s)))) := by
  refine .of r54_ok (by simp) (.one (by simp)) (by simp [r54]) ?_
  simp only [oo, on, og, om, ol, oh, zN, ci, r54, initTm, Nat.reduceAdd]
  simp -implicitDefEqProofs only [ev, ↓reduceIte, Nat.reduceAdd, Nat.reduceEqDiff, Nat.reduceLeDiff, reduceCtorEq]
  refine acall_ret (f74_ok s hs r) ?_
  cases h : isR r s with
  | true =>
    simp -implicitDefEqProofs only [ev, ↓reduceIte, Nat.reduceAdd, Nat.reduceEqDiff, Nat.reduceLeDiff, reduceCtorEq, h]
    refine acall_ret (f75_ok r) ?_
    simp -implicitDefEqProofs only [ev, ↓reduceIte, Nat.reduceAdd, Nat.reduceEqDiff, Nat.reduceLeDiff, reduceCtorEq]
    have h4 := encode_size_le r
    refine ⟨by show 1 + _ ≤ _; omega, ?_⟩
    refine fin_same (.one (by simp)) ⟨?_, rfl⟩
    simp only [escB, h, if_true, sct]
  | false =>
    simp -implicitDefEqProofs only [ev, ↓reduceIte, Nat.reduceAdd, Nat.reduceEqDiff, Nat.reduceLeDiff, reduceCtorEq, h]
    refine acall_ret (f75_ok r) ?_
    simp -implicitDefEqProofs only [ev, ↓reduceIte, Nat.reduceAdd, Nat.reduceEqDiff, Nat.reduceLeDiff, reduceCtorEq]
    refine fin_same (.one (by simp)) ⟨?_, rfl⟩
    simp only [escB, h, Bool.false_eq_true, if_false, sct]

def intRow (n : Int) : List IV := [.sc (.int .i64 n)]
def idxI (l : List Int) (n : Int) : Int := match l.findIdx? (fun x => n == x) with
  | some i => i
  | none => -1

theorem f76_ok (l : List Int) (n : Int) : Ret prog 76 [.one (.iv (.sl 1 (l.map intRow))), .one (sct (.int .i64 n))] (.one (sct (.int .i64 (idxI l n)))) := by
  refine .of r76_ok (by simp) (.one (by simp)) (by simp [r76]) ?_
  simp only [oo, on, og, om, ol, oh, zN, ci, r76, initTm, Nat.reduceAdd]
  simp -implicitDefEqProofs only [ev, ↓reduceIte, Nat.reduceAdd, Nat.reduceEqDiff, Nat.reduceLeDiff, reduceCtorEq]
  refine .mk fun hb => ?_
  simp -implicitDefEqProofs only [ev, ↓reduceIte, Nat.reduceAdd, Nat.reduceEqDiff, Nat.reduceLeDiff, reduceCtorEq, awp_loop]
  refine aloop_mk (σ := Nat) (fun i => [(0, .one (.iv (.sl 1 (l.map intRow)))), (1, .one (sct (.int .i64 n))), (7, .one (sct (.int .i64 l.length))), (8, .one (sct (.int .i64 i)))])
    (fun _ => Hp.nil) (fun i => i ≤ l.length ∧ ∀ j, j < i → ∀ x, l[j]? = some x → (n == x) = false) (fun i => l.length - i) 0 (by simp) (wk_none ?_) ?_
  · simp only [wk, ↓reduceIte, Nat.reduceEqDiff, reduceCtorEq, Nat.reduceLT]
    simp
  · rintro i ⟨hi, hno⟩
    simp only [oo, on, og, om, ol, oh, zN, ci, r76_l0]
    simp -implicitDefEqProofs only [ev, ↓reduceIte, Nat.reduceAdd, Nat.reduceEqDiff, Nat.reduceLeDiff, reduceCtorEq]
    refine .mk (fun h => ?_) (fun h => ?_)
    · have hlt : i < l.length := by simpa using h
      have hx := List.getElem?_eq_getElem hlt
      simp -implicitDefEqProofs only [ev, ↓reduceIte, Nat.reduceAdd, Nat.reduceEqDiff, Nat.reduceLeDiff, reduceCtorEq, List.getElem?_map, hx, intRow, Int.natCast_nonneg]
      refine .mk (fun h2 => ?_) (fun h2 => ?_)
      · simp -implicitDefEqProofs only [ev, ↓reduceIte, Nat.reduceAdd, Nat.reduceEqDiff, Nat.reduceLeDiff, reduceCtorEq]
        refine fin_same (.one (by simp)) ⟨?_, rfl⟩
        have : l.findIdx? (fun x => n == x) = some i := by
          rw [List.findIdx?_eq_some_iff_getElem]
          refine ⟨hlt, by simpa using h2, fun j hj => ?_⟩
          have := hno j hj _ (List.getElem?_eq_getElem (by omega))
          simpa using this
        simp only [idxI, this, sct]
      · simp -implicitDefEqProofs only [ev, ↓reduceIte, Nat.reduceAdd, Nat.reduceEqDiff, Nat.reduceLeDiff, reduceCtorEq]
        refine ⟨i + 1, ⟨by omega, fun j hj x hjx => ?_⟩, by omega, wk_none ?_⟩
        · rcases Nat.lt_or_ge j i with h3 | h3
          · exact hno j h3 x hjx
          · have : j = i := by omega
            subst this
            rw [hx] at hjx; cases hjx; simpa using h2
        · rw [wrap64 (by omega) (by omega)]
          simp only [wk, ↓reduceIte, Nat.reduceEqDiff, reduceCtorEq, Nat.reduceLT]
          simp
    · simp -implicitDefEqProofs only [ev, ↓reduceIte, Nat.reduceAdd, Nat.reduceEqDiff, Nat.reduceLeDiff, reduceCtorEq]
      have hi' : i = l.length := by simp at h; omega
      refine fin_same (.one (by simp)) ⟨?_, rfl⟩
      have : l.findIdx? (fun x => n == x) = none := by
        rw [List.findIdx?_eq_none_iff]
        intro x hx
        obtain ⟨j, hj, rfl⟩ := List.mem_iff_getElem.1 hx
        exact hno j (by omega) _ (List.getElem?_eq_getElem hj)
      simp only [idxI, this, sct]

theorem idxI_nonneg (l : List Int) (n : Int) : decide (idxI l n ≥ 0) = l.contains n := by
  unfold idxI
  cases h : l.findIdx? (fun x => n == x) with
  | none =>
    rw [List.findIdx?_eq_none_iff] at h
    have : l.contains n = false := by
      rw [Bool.eq_false_iff]; intro hc
      simp only [List.contains_iff_mem] at hc
      have := h n hc; simp at this
    rw [this]; decide
  | some i =>
    rw [List.findIdx?_eq_some_iff_getElem] at h
    obtain ⟨hlt, h2, _⟩ := h
    have : l.contains n = true := by
      simp only [List.contains_iff_mem]
      have : n = l[i] := by simpa using h2
      rw [this]; exact List.getElem_mem hlt
    rw [this]; simp

theorem f55_ok (l : List Int) (n : Int) : Ret prog 55 [.one (.iv (.sl 1 (l.map intRow))), .one (sct (.int .i64 n))] (.one (sct (.bool (l.contains n)))) := by
  refine .of r55_ok (by simp) (.one (by simp)) (by simp [r55]) ?_
  simp only [oo, on, og, om, ol, oh, zN, ci, r55, initTm, Nat.reduceAdd]
  simp -implicitDefEqProofs only [ev, ↓reduceIte, Nat.reduceAdd, Nat.reduceEqDiff, Nat.reduceLeDiff, reduceCtorEq]
  refine acall_ret (f76_ok l n) ?_
  simp -implicitDefEqProofs only [ev, ↓reduceIte, Nat.reduceAdd, Nat.reduceEqDiff, Nat.reduceLeDiff, reduceCtorEq]
  refine fin_same (.one (by simp)) ⟨?_, rfl⟩
  rw [← idxI_nonneg]

def inClassB : ByteArray := { data := #[92, 93, 45, 94] }
def specialsB : ByteArray := { data := #[92, 46, 91, 93, 40, 41, 42, 43, 63, 123, 125, 124, 94, 36] }
theorem inClassB_ascii : Ascii inClassB := by unfold Ascii; decide
theorem specialsB_ascii : Ascii specialsB := by unfold Ascii; decide
theorem escB_size (r : Int) (s : ByteArray) : (escB r s).size ≤ 5 := by
  have := encode_size_le r
  unfold escB
  split
  · simp only [ByteArray.size_append]; show 1 + _ ≤ _; omega
  · omega

def rgStep (out : ByteArray) (r : Rg) : ByteArray :=
  if r.hi == r.lo then out ++ escB r.lo inClassB else (out ++ escB r.lo inClassB) ++ (⟨#[45]⟩ ++ escB r.hi inClassB)
theorem rgStep_size (out : ByteArray) (r : Rg) : (rgStep out r).size ≤ out.size + 11 := by
  have h1 := escB_size r.lo inClassB
  have h2 := escB_size r.hi inClassB
  have e : (⟨#[45]⟩ : ByteArray).size = 1 := rfl
  unfold rgStep
  split <;> simp only [ByteArray.size_append] <;> omega
theorem rgFold_size : ∀ (l : Cls) (out : ByteArray), (l.foldl rgStep out).size ≤ out.size + 11 * l.length
  | [], out => by simp
  | r :: l, out => by
    have h1 := rgFold_size l (rgStep out r)
    have h2 := rgStep_size out r
    simp only [List.foldl_cons, List.length_cons]; omega

def oneRune (c : Cls) : Bool := match c with
  | [r] => r.lo == r.hi
  | _ => false
def putClassB (c : Cls) : ByteArray := if c == dotL then ⟨#[46]⟩ else if oneRune c then escB (headLo c) specialsB else (c.foldl rgStep ⟨#[91]⟩) ++ ⟨#[93]⟩

theorem oneRune_iff {c : Cls} : oneRune c = true ↔ ∃ r, c = [r] ∧ (r.lo == r.hi) = true := by
  unfold oneRune
  split
  · simp
  · rename_i h
    simp only [Bool.false_eq_true, false_iff]
    rintro ⟨r, rfl, _⟩
    exact h r rfl


theorem f32_ok (c : Cls) (hc : c.length ≤ 4000000) : Ret prog 32 [.one (.iv (clsIV c))] (.one (sct (.string (putClassB c)))) := by
  have hO : OfC := fun r0 l hb => f67_ok sort_ok merge_ok r0 l hb
  refine .of r32_ok (by simp) (.one (by simp)) (by simp [r32]) ?_
  generalize hR : putClassB c = R
  simp only [oo, on, og, om, ol, oh, zN, ci, r32, initTm, Nat.reduceAdd]
  simp -implicitDefEqProofs only [ev, ↓reduceIte, Nat.reduceAdd, Nat.reduceEqDiff, Nat.reduceLeDiff, reduceCtorEq]
  refine acall_ret (f53_ok hO) ?_
  simp -implicitDefEqProofs only [ev, ↓reduceIte, Nat.reduceAdd, Nat.reduceEqDiff, Nat.reduceLeDiff, reduceCtorEq]
  refine acall_ret (f38_ok c dotL) ?_
  cases h1 : c == dotL with
  | true =>
    simp -implicitDefEqProofs only [ev, ↓reduceIte, Nat.reduceAdd, Nat.reduceEqDiff, Nat.reduceLeDiff, reduceCtorEq, h1]
    refine fin_same (.one (by simp)) ⟨?_, rfl⟩
    rw [← hR]; simp only [putClassB, h1, if_true, sct]
  | false =>
    simp only [clsIV]
    cases hl : ((c.length : Int) == 1) with
    | false =>
      have h0 : oneRune c = false := by
        rw [Bool.eq_false_iff, ne_eq, oneRune_iff]
        rintro ⟨r, rfl, _⟩
        simp at hl
      simp -implicitDefEqProofs only [ev, ↓reduceIte, Nat.reduceAdd, Nat.reduceEqDiff, Nat.reduceLeDiff, reduceCtorEq, h1, hl]
      refine .mk fun hb => ?_
      simp -implicitDefEqProofs only [ev, ↓reduceIte, Nat.reduceAdd, Nat.reduceEqDiff, Nat.reduceLeDiff, reduceCtorEq, awp_loop]
      refine aloop_mk (σ := Nat × ByteArray) (fun p => [(30, .one (.iv (.sl 2 (c.map Rg.cells)))), (31, .one (sct (.int .i64 (c.length : Nat)))), (32, .one (sct (.int .i64 (p.1 : Nat)))), (3, .one (sct (.string p.2)))])
        (fun _ => Hp.nil) (fun p => p.1 ≤ c.length ∧ p.2.size ≤ 1 + 11 * p.1 ∧ (c.drop p.1).foldl rgStep p.2 = c.foldl rgStep ⟨#[91]⟩) (fun p => c.length - p.1) (0, ⟨#[91]⟩) ⟨by simp, by simp only; decide, by simp⟩ (wk_none ?_) ?_
      · simp only [wk, ↓reduceIte, Nat.reduceEqDiff, reduceCtorEq, Nat.reduceLT]
        simp
      · rintro ⟨i, out⟩ ⟨hi, hsz, hF⟩
        simp only at hi hsz hF
        simp only [oo, on, og, om, ol, oh, zN, ci, r32_l0]
        simp -implicitDefEqProofs only [ev, ↓reduceIte, Nat.reduceAdd, Nat.reduceEqDiff, Nat.reduceLeDiff, reduceCtorEq]
        refine .mk (fun h => ?_) (fun h => ?_)
        · have hlt : i < c.length := by simpa using h
          have hx := List.getElem?_eq_getElem hlt
          have hd := List.drop_eq_getElem_cons hlt
          rw [hd, List.foldl_cons] at hF
          have hst := rgStep_size out c[i]
          generalize hce : c[i] = r at hx hF hst
          obtain ⟨lo, hi_⟩ := r
          have hz1 := escB_size lo inClassB
          have hz2 := escB_size hi_ inClassB
          have hz3 : (⟨#[45]⟩ : ByteArray).size = 1 := rfl
          simp -implicitDefEqProofs only [ev, ↓reduceIte, Nat.reduceAdd, Nat.reduceEqDiff, Nat.reduceLeDiff, reduceCtorEq, List.getElem?_map, hx, Rg.cells, Int.natCast_nonneg]
          refine acall_ret (f54_ok inClassB inClassB_ascii lo) ?_
          simp -implicitDefEqProofs only [ev, ↓reduceIte, Nat.reduceAdd, Nat.reduceEqDiff, Nat.reduceLeDiff, reduceCtorEq]
          refine ⟨by omega, ?_⟩
          refine .mk (fun h2 => ?_) (fun h2 => ?_)
          · simp -implicitDefEqProofs only [ev, ↓reduceIte, Nat.reduceAdd, Nat.reduceEqDiff, Nat.reduceLeDiff, reduceCtorEq]
            refine acall_ret (f54_ok inClassB inClassB_ascii hi_) ?_
            simp -implicitDefEqProofs only [ev, ↓reduceIte, Nat.reduceAdd, Nat.reduceEqDiff, Nat.reduceLeDiff, reduceCtorEq]
            have h3 : (hi_ == lo) = false := by simpa [bne] using h2
            refine ⟨by omega, by simp only [ByteArray.size_append]; omega, ⟨(i + 1, rgStep out ⟨lo, hi_⟩), ⟨by simp only; omega, by simp only; omega, by simp only; exact hF⟩, by simp only; omega, wk_none ?_⟩⟩
            rw [wrap64 (by omega) (by omega)]
            simp only [wk, ↓reduceIte, Nat.reduceEqDiff, reduceCtorEq, Nat.reduceLT]
            simp [rgStep, h3]
          · simp -implicitDefEqProofs only [ev, ↓reduceIte, Nat.reduceAdd, Nat.reduceEqDiff, Nat.reduceLeDiff, reduceCtorEq]
            have h3 : (hi_ == lo) = true := by simpa [bne] using h2
            refine ⟨(i + 1, rgStep out ⟨lo, hi_⟩), ⟨by simp only; omega, by simp only; omega, by simp only; exact hF⟩, by simp only; omega, wk_none ?_⟩
            rw [wrap64 (by omega) (by omega)]
            simp only [wk, ↓reduceIte, Nat.reduceEqDiff, reduceCtorEq, Nat.reduceLT]
            simp [rgStep, h3]
        · simp -implicitDefEqProofs only [ev, ↓reduceIte, Nat.reduceAdd, Nat.reduceEqDiff, Nat.reduceLeDiff, reduceCtorEq]
          have hi' : i = c.length := by simp at h; omega
          subst hi'
          simp only [List.drop_length, List.foldl_nil] at hF
          refine ⟨by have : (⟨#[93]⟩ : ByteArray).size = 1 := rfl; omega, ?_⟩
          refine fin_same (.one (by simp)) ⟨?_, rfl⟩
          rw [← hR, hF]
          simp only [putClassB, h1, Bool.false_eq_true, if_false, h0, sct]
    | true =>
      obtain ⟨⟨lo, hi_⟩, rfl⟩ : ∃ r, c = [r] := by
        have : c.length = 1 := by have := eq_of_beq hl; omega
        exact List.length_eq_one_iff.1 this
      generalize hce : [(⟨lo, hi_⟩ : Rg)] = c at *
      have hx : c[0]? = some ⟨lo, hi_⟩ := by rw [← hce]; rfl
      cases h2 : lo == hi_ with
      | true =>
        simp -implicitDefEqProofs only [ev, ↓reduceIte, Nat.reduceAdd, Nat.reduceEqDiff, Nat.reduceLeDiff, reduceCtorEq, h1, hl, List.getElem?_map, hx, Rg.cells, h2]
        refine ⟨Int.le_refl _, Int.le_refl _, Int.le_refl _, acall_ret (f54_ok specialsB specialsB_ascii lo) ?_⟩
        simp -implicitDefEqProofs only [ev, ↓reduceIte, Nat.reduceAdd, Nat.reduceEqDiff, Nat.reduceLeDiff, reduceCtorEq]
        refine fin_same (.one (by simp)) ⟨?_, rfl⟩
        have h0 : oneRune c = true := by rw [← hce]; exact h2
        have h4 : headLo c = lo := by rw [← hce]; rfl
        rw [← hR]
        simp only [putClassB, h1, Bool.false_eq_true, if_false, h0, h4, if_true, sct]
      | false =>
        have h0 : oneRune c = false := by rw [← hce]; exact h2
        simp -implicitDefEqProofs only [ev, ↓reduceIte, Nat.reduceAdd, Nat.reduceEqDiff, Nat.reduceLeDiff, reduceCtorEq, h1, hl, List.getElem?_map, hx, Rg.cells, h2]
        refine ⟨Int.le_refl _, Int.le_refl _, ?_⟩
        refine .mk fun hb => ?_
        simp -implicitDefEqProofs only [ev, ↓reduceIte, Nat.reduceAdd, Nat.reduceEqDiff, Nat.reduceLeDiff, reduceCtorEq, awp_loop]
        refine aloop_mk (σ := Nat × ByteArray) (fun p => [(30, .one (.iv (.sl 2 (c.map Rg.cells)))), (31, .one (sct (.int .i64 (c.length : Nat)))), (32, .one (sct (.int .i64 (p.1 : Nat)))), (3, .one (sct (.string p.2)))])
          (fun _ => Hp.nil) (fun p => p.1 ≤ c.length ∧ p.2.size ≤ 1 + 11 * p.1 ∧ (c.drop p.1).foldl rgStep p.2 = c.foldl rgStep ⟨#[91]⟩) (fun p => c.length - p.1) (0, ⟨#[91]⟩) ⟨by simp, by simp only; decide, by simp⟩ (wk_none ?_) ?_
        · simp only [wk, ↓reduceIte, Nat.reduceEqDiff, reduceCtorEq, Nat.reduceLT]
          simp
        · rintro ⟨i, out⟩ ⟨hi, hsz, hF⟩
          simp only at hi hsz hF
          simp only [oo, on, og, om, ol, oh, zN, ci, r32_l0]
          simp -implicitDefEqProofs only [ev, ↓reduceIte, Nat.reduceAdd, Nat.reduceEqDiff, Nat.reduceLeDiff, reduceCtorEq]
          refine .mk (fun h => ?_) (fun h => ?_)
          · have hlt : i < c.length := by simpa using h
            have hx := List.getElem?_eq_getElem hlt
            have hd := List.drop_eq_getElem_cons hlt
            rw [hd, List.foldl_cons] at hF
            have hst := rgStep_size out c[i]
            generalize hce : c[i] = r at hx hF hst
            obtain ⟨lo, hi_⟩ := r
            have hz1 := escB_size lo inClassB
            have hz2 := escB_size hi_ inClassB
            have hz3 : (⟨#[45]⟩ : ByteArray).size = 1 := rfl
            simp -implicitDefEqProofs only [ev, ↓reduceIte, Nat.reduceAdd, Nat.reduceEqDiff, Nat.reduceLeDiff, reduceCtorEq, List.getElem?_map, hx, Rg.cells, Int.natCast_nonneg]
            refine acall_ret (f54_ok inClassB inClassB_ascii lo) ?_
            simp -implicitDefEqProofs only [ev, ↓reduceIte, Nat.reduceAdd, Nat.reduceEqDiff, Nat.reduceLeDiff, reduceCtorEq]
            refine ⟨by omega, ?_⟩
            refine .mk (fun h2 => ?_) (fun h2 => ?_)
            · simp -implicitDefEqProofs only [ev, ↓reduceIte, Nat.reduceAdd, Nat.reduceEqDiff, Nat.reduceLeDiff, reduceCtorEq]
              refine acall_ret (f54_ok inClassB inClassB_ascii hi_) ?_
              simp -implicitDefEqProofs only [ev, ↓reduceIte, Nat.reduceAdd, Nat.reduceEqDiff, Nat.reduceLeDiff, reduceCtorEq]
              have h3 : (hi_ == lo) = false := by simpa [bne] using h2
              refine ⟨by omega, by simp only [ByteArray.size_append]; omega, ⟨(i + 1, rgStep out ⟨lo, hi_⟩), ⟨by simp only; omega, by simp only; omega, by simp only; exact hF⟩, by simp only; omega, wk_none ?_⟩⟩
              rw [wrap64 (by omega) (by omega)]
              simp only [wk, ↓reduceIte, Nat.reduceEqDiff, reduceCtorEq, Nat.reduceLT]
              simp [rgStep, h3]
            · simp -implicitDefEqProofs only [ev, ↓reduceIte, Nat.reduceAdd, Nat.reduceEqDiff, Nat.reduceLeDiff, reduceCtorEq]
              have h3 : (hi_ == lo) = true := by simpa [bne] using h2
              refine ⟨(i + 1, rgStep out ⟨lo, hi_⟩), ⟨by simp only; omega, by simp only; omega, by simp only; exact hF⟩, by simp only; omega, wk_none ?_⟩
              rw [wrap64 (by omega) (by omega)]
              simp only [wk, ↓reduceIte, Nat.reduceEqDiff, reduceCtorEq, Nat.reduceLT]
              simp [rgStep, h3]
          · simp -implicitDefEqProofs only [ev, ↓reduceIte, Nat.reduceAdd, Nat.reduceEqDiff, Nat.reduceLeDiff, reduceCtorEq]
            have hi' : i = c.length := by simp at h; omega
            subst hi'
            simp only [List.drop_length, List.foldl_nil] at hF
            refine ⟨by have : (⟨#[93]⟩ : ByteArray).size = 1 := rfl; omega, ?_⟩
            refine fin_same (.one (by simp)) ⟨?_, rfl⟩
            rw [← hR, hF]
            simp only [putClassB, h1, Bool.false_eq_true, if_false, h0, sct]
end Go.Av

namespace Go.Av
open Go.RowKit Go.Proofs.Tryz

def decB (n : Int) : ByteArray := ⟨(decU n.toNat).toArray⟩
theorem decB_size (n : Int) : (decB n).size ≤ 2 := by
  unfold decB decU
  split <;> simp [ByteArray.size]
def timesB0 (a b : Int) : ByteArray :=
  if a == 0 && b == -1 then ⟨#[42]⟩ else if a == 1 && b == -1 then ⟨#[43]⟩ else if a == 0 && b == 1 then ⟨#[63]⟩
  else if a == b then (⟨#[123]⟩ ++ decB a) ++ ⟨#[125]⟩ else if b == -1 then (⟨#[123]⟩ ++ decB a) ++ ⟨#[44, 125]⟩
  else (⟨#[123]⟩ ++ decB a) ++ ((⟨#[44]⟩ ++ decB b) ++ ⟨#[125]⟩)
def timesB (a b : Int) (z : Bool) : ByteArray := if z then timesB0 a b ++ ⟨#[63]⟩ else timesB0 a b
theorem timesB0_size (a b : Int) : (timesB0 a b).size ≤ 7 := by
  have h1 := decB_size a
  have h2 := decB_size b
  have e1 : (⟨#[42]⟩ : ByteArray).size = 1 := rfl
  have e2 : (⟨#[43]⟩ : ByteArray).size = 1 := rfl
  have e3 : (⟨#[63]⟩ : ByteArray).size = 1 := rfl
  have e4 : (⟨#[123]⟩ : ByteArray).size = 1 := rfl
  have e5 : (⟨#[125]⟩ : ByteArray).size = 1 := rfl
  have e6 : (⟨#[44]⟩ : ByteArray).size = 1 := rfl
  have e7 : (⟨#[44, 125]⟩ : ByteArray).size = 2 := rfl
  unfold timesB0
  repeat' split
  all_goals (try simp only [ByteArray.size_append])
  all_goals omega
theorem timesB_size (a b : Int) (z : Bool) : (timesB a b z).size ≤ 8 := by
  have := timesB0_size a b
  have e3 : (⟨#[63]⟩ : ByteArray).size = 1 := rfl
  unfold timesB
  split <;> (try simp only [ByteArray.size_append]) <;> omega

theorem itoa_int {n : Int} (h0 : 0 ≤ n) (h1 : n < 100) : Ret prog 57 [.one (sct (.int .i64 n))] (.one (sct (.string (decB n)))) := by
  have := itoa_ok n.toNat (by omega)
  rwa [Int.toNat_of_nonneg h0] at this

theorem f34_ok (k : Int) (c : Cls) (a b : Int) (z : Bool) (m : Int) (ks : List Nd) (ha0 : 0 ≤ a) (ha : a < 100) (hb0 : -1 ≤ b) (hb : b < 100) : Ret prog 34 [.agg ((Nd.mk k c a b z m ks).cells.map .iv)] (.one (sct (.string (timesB a b z)))) := by
  refine .of r34_ok (by simp [Nd.cells]) (.one (by simp)) (by simp [r34]) ?_
  have h1 := decB_size a
  have h2 := decB_size b
  have e1 : (⟨#[42]⟩ : ByteArray).size = 1 := rfl
  have e2 : (⟨#[43]⟩ : ByteArray).size = 1 := rfl
  have e3 : (⟨#[63]⟩ : ByteArray).size = 1 := rfl
  have e4 : (⟨#[123]⟩ : ByteArray).size = 1 := rfl
  have e5 : (⟨#[125]⟩ : ByteArray).size = 1 := rfl
  have e6 : (⟨#[44]⟩ : ByteArray).size = 1 := rfl
  have e7 : (⟨#[44, 125]⟩ : ByteArray).size = 2 := rfl
  generalize hR : timesB a b z = R
  simp only [oo, on, og, om, ol, oh, zN, ci, r34, initTm, Nat.reduceAdd, Nd.cells, List.map_cons, List.map_nil]
  simp -implicitDefEqProofs only [ev, ↓reduceIte, Nat.reduceAdd, Nat.reduceEqDiff, Nat.reduceLeDiff, reduceCtorEq]
  refine acall_ret (itoa_int ha0 ha) ?_
  simp -implicitDefEqProofs only [ev, ↓reduceIte, Nat.reduceAdd, Nat.reduceEqDiff, Nat.reduceLeDiff, reduceCtorEq]
  refine ⟨by omega, ?_⟩
  cases hA : a == 0 with
  | true =>
    cases hB : b == -1 with
    | true =>
      simp -implicitDefEqProofs only [ev, ↓reduceIte, Nat.reduceAdd, Nat.reduceEqDiff, Nat.reduceLeDiff, reduceCtorEq, hA, hB]
      cases z with
      | true =>
        simp -implicitDefEqProofs only [ev, ↓reduceIte, Nat.reduceAdd, Nat.reduceEqDiff, Nat.reduceLeDiff, reduceCtorEq]
        refine ⟨by (try simp only [ByteArray.size_append]); omega, ?_⟩
        refine fin_same (.one (by simp)) ⟨?_, rfl⟩
        rw [← hR]; simp [timesB, timesB0, hA, hB]
      | false =>
        simp -implicitDefEqProofs only [ev, ↓reduceIte, Nat.reduceAdd, Nat.reduceEqDiff, Nat.reduceLeDiff, reduceCtorEq]
        refine fin_same (.one (by simp)) ⟨?_, rfl⟩
        rw [← hR]; simp [timesB, timesB0, hA, hB]
    | false =>
      cases hD : b == 1 with
      | true =>
        have hC : (a == 1) = false := by have := eq_of_beq hA; subst this; rfl
        simp -implicitDefEqProofs only [ev, ↓reduceIte, Nat.reduceAdd, Nat.reduceEqDiff, Nat.reduceLeDiff, reduceCtorEq, hA, hB, hC, hD]
        cases z with
        | true =>
          simp -implicitDefEqProofs only [ev, ↓reduceIte, Nat.reduceAdd, Nat.reduceEqDiff, Nat.reduceLeDiff, reduceCtorEq]
          refine ⟨by (try simp only [ByteArray.size_append]); omega, ?_⟩
          refine fin_same (.one (by simp)) ⟨?_, rfl⟩
          rw [← hR]; simp [timesB, timesB0, hA, hB, hC, hD]
        | false =>
          simp -implicitDefEqProofs only [ev, ↓reduceIte, Nat.reduceAdd, Nat.reduceEqDiff, Nat.reduceLeDiff, reduceCtorEq]
          refine fin_same (.one (by simp)) ⟨?_, rfl⟩
          rw [← hR]; simp [timesB, timesB0, hA, hB, hC, hD]
      | false =>
        have hC : (a == 1) = false := by have := eq_of_beq hA; subst this; rfl
        cases hE : a == b with
        | true =>
          simp -implicitDefEqProofs only [ev, ↓reduceIte, Nat.reduceAdd, Nat.reduceEqDiff, Nat.reduceLeDiff, reduceCtorEq, hA, hB, hC, hD, hE]
          refine ⟨by (try simp only [ByteArray.size_append]); omega, ?_⟩
          cases z with
          | true =>
            simp -implicitDefEqProofs only [ev, ↓reduceIte, Nat.reduceAdd, Nat.reduceEqDiff, Nat.reduceLeDiff, reduceCtorEq]
            refine ⟨by (try simp only [ByteArray.size_append]); omega, ?_⟩
            refine fin_same (.one (by simp)) ⟨?_, rfl⟩
            rw [← hR]; simp [timesB, timesB0, hA, hB, hC, hD, hE]
          | false =>
            simp -implicitDefEqProofs only [ev, ↓reduceIte, Nat.reduceAdd, Nat.reduceEqDiff, Nat.reduceLeDiff, reduceCtorEq]
            refine fin_same (.one (by simp)) ⟨?_, rfl⟩
            rw [← hR]; simp [timesB, timesB0, hA, hB, hC, hD, hE]
        | false =>
          simp -implicitDefEqProofs only [ev, ↓reduceIte, Nat.reduceAdd, Nat.reduceEqDiff, Nat.reduceLeDiff, reduceCtorEq, hA, hB, hC, hD, hE]
          refine acall_ret (itoa_int (by have := ne_of_beq_false hB; omega) hb) ?_
          simp -implicitDefEqProofs only [ev, ↓reduceIte, Nat.reduceAdd, Nat.reduceEqDiff, Nat.reduceLeDiff, reduceCtorEq]
          refine ⟨by (try simp only [ByteArray.size_append]); omega, by (try simp only [ByteArray.size_append]); omega, by (try simp only [ByteArray.size_append]); omega, ?_⟩
          cases z with
          | true =>
            simp -implicitDefEqProofs only [ev, ↓reduceIte, Nat.reduceAdd, Nat.reduceEqDiff, Nat.reduceLeDiff, reduceCtorEq]
            refine ⟨by (try simp only [ByteArray.size_append]); omega, ?_⟩
            refine fin_same (.one (by simp)) ⟨?_, rfl⟩
            rw [← hR]; simp [timesB, timesB0, hA, hB, hC, hD, hE]
          | false =>
            simp -implicitDefEqProofs only [ev, ↓reduceIte, Nat.reduceAdd, Nat.reduceEqDiff, Nat.reduceLeDiff, reduceCtorEq]
            refine fin_same (.one (by simp)) ⟨?_, rfl⟩
            rw [← hR]; simp [timesB, timesB0, hA, hB, hC, hD, hE]
  | false =>
    cases hC : a == 1 with
    | true =>
      cases hB : b == -1 with
      | true =>
        simp -implicitDefEqProofs only [ev, ↓reduceIte, Nat.reduceAdd, Nat.reduceEqDiff, Nat.reduceLeDiff, reduceCtorEq, hA, hB, hC]
        cases z with
        | true =>
          simp -implicitDefEqProofs only [ev, ↓reduceIte, Nat.reduceAdd, Nat.reduceEqDiff, Nat.reduceLeDiff, reduceCtorEq]
          refine ⟨by (try simp only [ByteArray.size_append]); omega, ?_⟩
          refine fin_same (.one (by simp)) ⟨?_, rfl⟩
          rw [← hR]; simp [timesB, timesB0, hA, hB, hC]
        | false =>
          simp -implicitDefEqProofs only [ev, ↓reduceIte, Nat.reduceAdd, Nat.reduceEqDiff, Nat.reduceLeDiff, reduceCtorEq]
          refine fin_same (.one (by simp)) ⟨?_, rfl⟩
          rw [← hR]; simp [timesB, timesB0, hA, hB, hC]
      | false =>
        cases hD : b == 1 with
        | true =>
          cases hE : a == b with
          | true =>
            simp -implicitDefEqProofs only [ev, ↓reduceIte, Nat.reduceAdd, Nat.reduceEqDiff, Nat.reduceLeDiff, reduceCtorEq, hA, hB, hC, hD, hE]
            refine ⟨by (try simp only [ByteArray.size_append]); omega, ?_⟩
            cases z with
            | true =>
              simp -implicitDefEqProofs only [ev, ↓reduceIte, Nat.reduceAdd, Nat.reduceEqDiff, Nat.reduceLeDiff, reduceCtorEq]
              refine ⟨by (try simp only [ByteArray.size_append]); omega, ?_⟩
              refine fin_same (.one (by simp)) ⟨?_, rfl⟩
              rw [← hR]; simp [timesB, timesB0, hA, hB, hC, hD, hE]
            | false =>
              simp -implicitDefEqProofs only [ev, ↓reduceIte, Nat.reduceAdd, Nat.reduceEqDiff, Nat.reduceLeDiff, reduceCtorEq]
              refine fin_same (.one (by simp)) ⟨?_, rfl⟩
              rw [← hR]; simp [timesB, timesB0, hA, hB, hC, hD, hE]
          | false =>
            simp -implicitDefEqProofs only [ev, ↓reduceIte, Nat.reduceAdd, Nat.reduceEqDiff, Nat.reduceLeDiff, reduceCtorEq, hA, hB, hC, hD, hE]
            refine acall_ret (itoa_int (by have := ne_of_beq_false hB; omega) hb) ?_
            simp -implicitDefEqProofs only [ev, ↓reduceIte, Nat.reduceAdd, Nat.reduceEqDiff, Nat.reduceLeDiff, reduceCtorEq]
            refine ⟨by (try simp only [ByteArray.size_append]); omega, by (try simp only [ByteArray.size_append]); omega, by (try simp only [ByteArray.size_append]); omega, ?_⟩
            cases z with
            | true =>
              simp -implicitDefEqProofs only [ev, ↓reduceIte, Nat.reduceAdd, Nat.reduceEqDiff, Nat.reduceLeDiff, reduceCtorEq]
              refine ⟨by (try simp only [ByteArray.size_append]); omega, ?_⟩
              refine fin_same (.one (by simp)) ⟨?_, rfl⟩
              rw [← hR]; simp [timesB, timesB0, hA, hB, hC, hD, hE]
            | false =>
              simp -implicitDefEqProofs only [ev, ↓reduceIte, Nat.reduceAdd, Nat.reduceEqDiff, Nat.reduceLeDiff, reduceCtorEq]
              refine fin_same (.one (by simp)) ⟨?_, rfl⟩
              rw [← hR]; simp [timesB, timesB0, hA, hB, hC, hD, hE]
        | false =>
          cases hE : a == b with
          | true =>
            simp -implicitDefEqProofs only [ev, ↓reduceIte, Nat.reduceAdd, Nat.reduceEqDiff, Nat.reduceLeDiff, reduceCtorEq, hA, hB, hC, hD, hE]
            refine ⟨by (try simp only [ByteArray.size_append]); omega, ?_⟩
            cases z with
            | true =>
              simp -implicitDefEqProofs only [ev, ↓reduceIte, Nat.reduceAdd, Nat.reduceEqDiff, Nat.reduceLeDiff, reduceCtorEq]
              refine ⟨by (try simp only [ByteArray.size_append]); omega, ?_⟩
              refine fin_same (.one (by simp)) ⟨?_, rfl⟩
              rw [← hR]; simp [timesB, timesB0, hA, hB, hC, hD, hE]
            | false =>
              simp -implicitDefEqProofs only [ev, ↓reduceIte, Nat.reduceAdd, Nat.reduceEqDiff, Nat.reduceLeDiff, reduceCtorEq]
              refine fin_same (.one (by simp)) ⟨?_, rfl⟩
              rw [← hR]; simp [timesB, timesB0, hA, hB, hC, hD, hE]
          | false =>
            simp -implicitDefEqProofs only [ev, ↓reduceIte, Nat.reduceAdd, Nat.reduceEqDiff, Nat.reduceLeDiff, reduceCtorEq, hA, hB, hC, hD, hE]
            refine acall_ret (itoa_int (by have := ne_of_beq_false hB; omega) hb) ?_
            simp -implicitDefEqProofs only [ev, ↓reduceIte, Nat.reduceAdd, Nat.reduceEqDiff, Nat.reduceLeDiff, reduceCtorEq]
            refine ⟨by (try simp only [ByteArray.size_append]); omega, by (try simp only [ByteArray.size_append]); omega, by (try simp only [ByteArray.size_append]); omega, ?_⟩
            cases z with
            | true =>
              simp -implicitDefEqProofs only [ev, ↓reduceIte, Nat.reduceAdd, Nat.reduceEqDiff, Nat.reduceLeDiff, reduceCtorEq]
              refine ⟨by (try simp only [ByteArray.size_append]); omega, ?_⟩
              refine fin_same (.one (by simp)) ⟨?_, rfl⟩
              rw [← hR]; simp [timesB, timesB0, hA, hB, hC, hD, hE]
            | false =>
              simp -implicitDefEqProofs only [ev, ↓reduceIte, Nat.reduceAdd, Nat.reduceEqDiff, Nat.reduceLeDiff, reduceCtorEq]
              refine fin_same (.one (by simp)) ⟨?_, rfl⟩
              rw [← hR]; simp [timesB, timesB0, hA, hB, hC, hD, hE]
    | false =>
      cases hB : b == -1 with
      | true =>
        have hD : (b == 1) = false := by have := eq_of_beq hB; subst this; rfl
        cases hE : a == b with
        | true =>
          simp -implicitDefEqProofs only [ev, ↓reduceIte, Nat.reduceAdd, Nat.reduceEqDiff, Nat.reduceLeDiff, reduceCtorEq, hA, hB, hC, hD, hE]
          refine ⟨by (try simp only [ByteArray.size_append]); omega, ?_⟩
          cases z with
          | true =>
            simp -implicitDefEqProofs only [ev, ↓reduceIte, Nat.reduceAdd, Nat.reduceEqDiff, Nat.reduceLeDiff, reduceCtorEq]
            refine ⟨by (try simp only [ByteArray.size_append]); omega, ?_⟩
            refine fin_same (.one (by simp)) ⟨?_, rfl⟩
            rw [← hR]; simp [timesB, timesB0, hA, hB, hC, hD, hE]
          | false =>
            simp -implicitDefEqProofs only [ev, ↓reduceIte, Nat.reduceAdd, Nat.reduceEqDiff, Nat.reduceLeDiff, reduceCtorEq]
            refine fin_same (.one (by simp)) ⟨?_, rfl⟩
            rw [← hR]; simp [timesB, timesB0, hA, hB, hC, hD, hE]
        | false =>
          simp -implicitDefEqProofs only [ev, ↓reduceIte, Nat.reduceAdd, Nat.reduceEqDiff, Nat.reduceLeDiff, reduceCtorEq, hA, hB, hC, hD, hE]
          refine ⟨by (try simp only [ByteArray.size_append]); omega, ?_⟩
          cases z with
          | true =>
            simp -implicitDefEqProofs only [ev, ↓reduceIte, Nat.reduceAdd, Nat.reduceEqDiff, Nat.reduceLeDiff, reduceCtorEq]
            refine ⟨by (try simp only [ByteArray.size_append]); omega, ?_⟩
            refine fin_same (.one (by simp)) ⟨?_, rfl⟩
            rw [← hR]; simp [timesB, timesB0, hA, hB, hC, hD, hE]
          | false =>
            simp -implicitDefEqProofs only [ev, ↓reduceIte, Nat.reduceAdd, Nat.reduceEqDiff, Nat.reduceLeDiff, reduceCtorEq]
            refine fin_same (.one (by simp)) ⟨?_, rfl⟩
            rw [← hR]; simp [timesB, timesB0, hA, hB, hC, hD, hE]
      | false =>
        cases hD : b == 1 with
        | true =>
          cases hE : a == b with
          | true =>
            simp -implicitDefEqProofs only [ev, ↓reduceIte, Nat.reduceAdd, Nat.reduceEqDiff, Nat.reduceLeDiff, reduceCtorEq, hA, hB, hC, hD, hE]
            refine ⟨by (try simp only [ByteArray.size_append]); omega, ?_⟩
            cases z with
            | true =>
              simp -implicitDefEqProofs only [ev, ↓reduceIte, Nat.reduceAdd, Nat.reduceEqDiff, Nat.reduceLeDiff, reduceCtorEq]
              refine ⟨by (try simp only [ByteArray.size_append]); omega, ?_⟩
              refine fin_same (.one (by simp)) ⟨?_, rfl⟩
              rw [← hR]; simp [timesB, timesB0, hA, hB, hC, hD, hE]
            | false =>
              simp -implicitDefEqProofs only [ev, ↓reduceIte, Nat.reduceAdd, Nat.reduceEqDiff, Nat.reduceLeDiff, reduceCtorEq]
              refine fin_same (.one (by simp)) ⟨?_, rfl⟩
              rw [← hR]; simp [timesB, timesB0, hA, hB, hC, hD, hE]
          | false =>
            simp -implicitDefEqProofs only [ev, ↓reduceIte, Nat.reduceAdd, Nat.reduceEqDiff, Nat.reduceLeDiff, reduceCtorEq, hA, hB, hC, hD, hE]
            refine acall_ret (itoa_int (by have := ne_of_beq_false hB; omega) hb) ?_
            simp -implicitDefEqProofs only [ev, ↓reduceIte, Nat.reduceAdd, Nat.reduceEqDiff, Nat.reduceLeDiff, reduceCtorEq]
            refine ⟨by (try simp only [ByteArray.size_append]); omega, by (try simp only [ByteArray.size_append]); omega, by (try simp only [ByteArray.size_append]); omega, ?_⟩
            cases z with
            | true =>
              simp -implicitDefEqProofs only [ev, ↓reduceIte, Nat.reduceAdd, Nat.reduceEqDiff, Nat.reduceLeDiff, reduceCtorEq]
              refine ⟨by (try simp only [ByteArray.size_append]); omega, ?_⟩
              refine fin_same (.one (by simp)) ⟨?_, rfl⟩
              rw [← hR]; simp [timesB, timesB0, hA, hB, hC, hD, hE]
            | false =>
              simp -implicitDefEqProofs only [ev, ↓reduceIte, Nat.reduceAdd, Nat.reduceEqDiff, Nat.reduceLeDiff, reduceCtorEq]
              refine fin_same (.one (by simp)) ⟨?_, rfl⟩
              rw [← hR]; simp [timesB, timesB0, hA, hB, hC, hD, hE]
        | false =>
          cases hE : a == b with
          | true =>
            simp -implicitDefEqProofs only [ev, ↓reduceIte, Nat.reduceAdd, Nat.reduceEqDiff, Nat.reduceLeDiff, reduceCtorEq, hA, hB, hC, hD, hE]
            refine ⟨by (try simp only [ByteArray.size_append]); omega, ?_⟩
            cases z with
            | true =>
              simp -implicitDefEqProofs only [ev, ↓reduceIte, Nat.reduceAdd, Nat.reduceEqDiff, Nat.reduceLeDiff, reduceCtorEq]
              refine ⟨by (try simp only [ByteArray.size_append]); omega, ?_⟩
              refine fin_same (.one (by simp)) ⟨?_, rfl⟩
              rw [← hR]; simp [timesB, timesB0, hA, hB, hC, hD, hE]
            | false =>
              simp -implicitDefEqProofs only [ev, ↓reduceIte, Nat.reduceAdd, Nat.reduceEqDiff, Nat.reduceLeDiff, reduceCtorEq]
              refine fin_same (.one (by simp)) ⟨?_, rfl⟩
              rw [← hR]; simp [timesB, timesB0, hA, hB, hC, hD, hE]
          | false =>
            simp -implicitDefEqProofs only [ev, ↓reduceIte, Nat.reduceAdd, Nat.reduceEqDiff, Nat.reduceLeDiff, reduceCtorEq, hA, hB, hC, hD, hE]
            refine acall_ret (itoa_int (by have := ne_of_beq_false hB; omega) hb) ?_
            simp -implicitDefEqProofs only [ev, ↓reduceIte, Nat.reduceAdd, Nat.reduceEqDiff, Nat.reduceLeDiff, reduceCtorEq]
            refine ⟨by (try simp only [ByteArray.size_append]); omega, by (try simp only [ByteArray.size_append]); omega, by (try simp only [ByteArray.size_append]); omega, ?_⟩
            cases z with
            | true =>
              simp -implicitDefEqProofs only [ev, ↓reduceIte, Nat.reduceAdd, Nat.reduceEqDiff, Nat.reduceLeDiff, reduceCtorEq]
              refine ⟨by (try simp only [ByteArray.size_append]); omega, ?_⟩
              refine fin_same (.one (by simp)) ⟨?_, rfl⟩
              rw [← hR]; simp [timesB, timesB0, hA, hB, hC, hD, hE]
            | false =>
              simp -implicitDefEqProofs only [ev, ↓reduceIte, Nat.reduceAdd, Nat.reduceEqDiff, Nat.reduceLeDiff, reduceCtorEq]
              refine fin_same (.one (by simp)) ⟨?_, rfl⟩
              rw [← hR]; simp [timesB, timesB0, hA, hB, hC, hD, hE]
end Go.Av

namespace Go.Av
open Go.RowKit Go.Proofs.Tryz

def wrapB (w : Bool) (s : ByteArray) : ByteArray := if w then (⟨#[40, 63, 58]⟩ ++ s) ++ ⟨#[41]⟩ else s

mutual
/-- A node as it is read. -/
def putB : Nd → ByteArray
  | .mk k c a b z m ks =>
    if k == 1 then putClassB c else if k == 2 then ⟨#[94]⟩ else if k == 3 then ⟨#[36]⟩ else if k == 4 then ⟨#[92, 98]⟩ else if k == 5 then ⟨#[92, 66]⟩
    else if k == 6 then joinB (putKs [7] ks) ⟨#[]⟩ else if k == 7 then joinB (putKs [] ks) ⟨#[124]⟩
    else if k == 8 then joinB (putKs [0, 6, 7, 8] ks) ⟨#[]⟩ ++ timesB a b z
    else if k == 9 then (⟨#[40]⟩ ++ joinB (putKs [] ks) ⟨#[]⟩) ++ ⟨#[41]⟩ else ⟨#[]⟩
def putKs (kinds : List Int) : List Nd → List ByteArray
  | [] => []
  | x :: r => wrapB (kinds.contains x.kind) (putB x) :: putKs kinds r
end

theorem putKs_eq (kinds : List Int) : ∀ l, putKs kinds l = l.map fun x => wrapB (kinds.contains x.kind) (putB x)
  | [] => by simp [putKs]
  | x :: r => by simp [putKs, putKs_eq kinds r]

mutual
def PutOk : Nd → Prop
  | .mk k c a b z m ks => c.length ≤ 4000000 ∧ 0 ≤ a ∧ a < 100 ∧ -1 ≤ b ∧ b < 100 ∧ PutOks ks
def PutOks : List Nd → Prop
  | [] => True
  | x :: r => PutOk x ∧ PutOks r
end

theorem PutOks.get : ∀ {l : List Nd}, PutOks l → ∀ {x}, x ∈ l → PutOk x
  | _ :: _, h, x, hx => by
    rcases List.mem_cons.1 hx with rfl | hx
    · exact h.1
    · exact PutOks.get h.2 hx

def sumSz (sep : Nat) : List ByteArray → Nat
  | [] => 0
  | x :: r => x.size + sep + sumSz sep r

theorem joinTail_len (sep : List UInt8) : ∀ (xs : List ByteArray), (Lib.joinTail sep (xs.map (·.data.toList))).length = sumSz sep.length xs
  | [] => rfl
  | x :: r => by
    have := joinTail_len sep r
    simp only [Lib.joinTail] at this
    simp only [Lib.joinTail, List.map_cons, List.flatten_cons, List.length_append, sumSz, this]
    have : x.data.toList.length = x.size := rfl
    omega

theorem joinB_size (xs : List ByteArray) (sep : ByteArray) : (joinB xs sep).size ≤ sumSz sep.size xs := by
  cases xs with
  | nil => simp [joinB, sumSz, Lib.join_nil, ByteArray.size]
  | cons x r =>
    have h1 := joinTail_len sep.data.toList r
    have h2 : (joinB (x :: r) sep).size = (Lib.join ((x :: r).map (·.data.toList)) sep.data.toList).length := by simp [joinB, ByteArray.size]
    have h3 : x.data.toList.length = x.size := rfl
    have h4 : sep.data.toList.length = sep.size := rfl
    rw [h2, List.map_cons, Lib.join_cons, List.length_append, h1, h3, h4]
    simp only [sumSz]; omega

theorem wrapB_size (w : Bool) (s : ByteArray) : (wrapB w s).size ≤ s.size + 4 := by
  have e1 : (⟨#[40, 63, 58]⟩ : ByteArray).size = 3 := rfl
  have e2 : (⟨#[41]⟩ : ByteArray).size = 1 := rfl
  unfold wrapB
  split <;> (try simp only [ByteArray.size_append]) <;> omega
theorem putClassB_size {c : Cls} (h : c.length ≤ 4000000) : (putClassB c).size ≤ 44000002 := by
  have h1 := rgFold_size c ⟨#[91]⟩
  have h2 := escB_size (headLo c) specialsB
  have e1 : (⟨#[91]⟩ : ByteArray).size = 1 := rfl
  have e2 : (⟨#[93]⟩ : ByteArray).size = 1 := rfl
  have e3 : (⟨#[46]⟩ : ByteArray).size = 1 := rfl
  unfold putClassB
  repeat' split
  all_goals (try simp only [ByteArray.size_append])
  all_goals omega

mutual
theorem putB_size : ∀ x : Nd, PutOk x → (putB x).size + 5 ≤ 50000000 * x.size
  | .mk k c a b z m ks, h => by
    simp only [PutOk] at h
    have hk := fun kinds sep (hs : sep ≤ 1) => putKs_size kinds sep hs ks h.2.2.2.2.2
    have hc := putClassB_size h.1
    have ht := timesB_size a b z
    have j1 := joinB_size (putKs [7] ks) ⟨#[]⟩
    have j2 := joinB_size (putKs [] ks) ⟨#[124]⟩
    have j3 := joinB_size (putKs [0, 6, 7, 8] ks) ⟨#[]⟩
    have j4 := joinB_size (putKs [] ks) ⟨#[]⟩
    have k1 := hk [7] 0 (by omega)
    have k2 := hk [] 1 (by omega)
    have k3 := hk [0, 6, 7, 8] 0 (by omega)
    have k4 := hk [] 0 (by omega)
    have s0 : (⟨#[]⟩ : ByteArray).size = 0 := rfl
    have s1 : (⟨#[124]⟩ : ByteArray).size = 1 := rfl
    have s2 : (⟨#[40]⟩ : ByteArray).size = 1 := rfl
    have s3 : (⟨#[41]⟩ : ByteArray).size = 1 := rfl
    have s4 : (⟨#[94]⟩ : ByteArray).size = 1 := rfl
    have s5 : (⟨#[36]⟩ : ByteArray).size = 1 := rfl
    have s6 : (⟨#[92, 98]⟩ : ByteArray).size = 2 := rfl
    have s7 : (⟨#[92, 66]⟩ : ByteArray).size = 2 := rfl
    rw [s0] at j1 j3 j4
    rw [s1] at j2
    simp only [putB, Nd.size]
    repeat' split
    all_goals (try simp only [ByteArray.size_append])
    all_goals omega
theorem putKs_size (kinds : List Int) (sep : Nat) (hs : sep ≤ 1) : ∀ l : List Nd, PutOks l → sumSz sep (putKs kinds l) ≤ 50000000 * ndSize l
  | [], _ => by simp [putKs, sumSz]
  | x :: r, h => by
    have h1 := putB_size x h.1
    have h2 := putKs_size kinds sep hs r h.2
    have h3 := wrapB_size (kinds.contains x.kind) (putB x)
    simp only [putKs, sumSz, ndSize]
    omega
end

theorem cv_ownS {hp : Hp} {b ver : Nat} {l : List ByteArray} {f : Bool} {fz : List Nat} (h : hp.bs.get b = some (.cells 1 ver (rowsOf strRow l) f)) (hb : b ∈ fz) : Cv (hp.prep fz []) (.own b ver 0 l.length) (.iv (.sl 1 (l.map strRow))) :=
  cv_own h hb (by simp [rowsOf, List.take_of_length_le])

theorem f33_step (n : Nat) (ih : ∀ (x : Nd), x.size < n → PutOk x → x.size ≤ 1000000 → Ret prog 13 [.agg (x.cells.map .iv)] (.one (sct (.string (putB x))))) (k : Int) (c : Cls) (a b : Int) (z : Bool) (m : Int) (ks : List Nd) (hn : ndSize ks < n) (hok : PutOks ks) (hb : ndSize ks ≤ 1000000) (sep : ByteArray) (hs : sep.size ≤ 1) (kinds : List Int) :
    Ret prog 33 [.agg ((Nd.mk k c a b z m ks).cells.map .iv), .one (sct (.string sep)), .one (.iv (.sl 1 (kinds.map intRow)))] (.one (sct (.string (joinB (putKs kinds ks) sep)))) := by
  refine .of r33_ok (by simp [Nd.cells]) (.one (by simp)) (by simp [r33]) ?_
  simp only [oo, on, og, om, ol, oh, zN, ci, r33, initTm, Nat.reduceAdd, Nd.cells, List.map_cons, List.map_nil, ndRows_eq]
  simp -implicitDefEqProofs only [ev, ↓reduceIte, Nat.reduceAdd, Nat.reduceEqDiff, Nat.reduceLeDiff, reduceCtorEq]
  refine .mk fun h1 => ?_
  have hlen := length_le_ndSize ks
  simp -implicitDefEqProofs only [ev, ↓reduceIte, Nat.reduceAdd, Nat.reduceEqDiff, Nat.reduceLeDiff, reduceCtorEq, awp_loop]
  refine aloop_mk (σ := Nat × Nat) (fun q => [(1, .one (sct (.string sep))), (2, .one (.iv (.sl 1 (kinds.map intRow)))), (12, .one (.iv (.sl 7 (ks.map Nd.cells)))), (13, .one (sct (.int .i64 ks.length))), (14, .one (sct (.int .i64 q.1))), (7, .one (.own 0 q.2 0 (putKs kinds (ks.take q.1)).length))])
    (fun q => ⟨[(0, .cells 1 q.2 (rowsOf strRow (putKs kinds (ks.take q.1))) false)], 1⟩) (fun q => q.1 ≤ ks.length) (fun q => ks.length - q.1) (0, 0) (by simp) (wk_conv [] [1] (by simp) (by simp [Hp.prep, Hp.freeze, Hp.ghost, Hp.new, Hp.nil]) (by simp) ?_ ?_ ?_) ?_
  · simp [BsEq, Hp.prep, Hp.freeze, Hp.ghost, Hp.new, Bs.freeze, Bs.get, putKs, rowsOf]
  · exact ⟨rowsOf_low _ _, trivial⟩
  · refine ⟨⟨by simp, _, rfl, .refl _⟩, ⟨by simp, _, rfl, .refl _⟩, ⟨by simp, _, rfl, .refl _⟩, ⟨by simp, _, rfl, .refl _⟩, ⟨by simp, _, rfl, .refl _⟩, ⟨by simp, _, rfl, .one (.nilOwn 0 0 1 [] false ?_ ?_)⟩, trivial⟩
    · simp [Hp.prep, Hp.freeze, Hp.ghost, Hp.new, Bs.freeze, Bs.get]
    · simp [Hp.prep, Hp.freeze, Hp.ghost, Hp.new]
  · rintro ⟨i, ver⟩ hi
    simp only at hi
    simp only [oo, on, og, om, ol, oh, zN, ci, r33_l0]
    simp -implicitDefEqProofs only [ev, ↓reduceIte, Nat.reduceAdd, Nat.reduceEqDiff, Nat.reduceLeDiff, reduceCtorEq]
    refine .mk (fun h => ?_) (fun h => ?_)
    · have hlt : i < ks.length := by simpa using h
      have hx := List.getElem?_eq_getElem hlt
      have hsm := ndSize_mem (List.getElem_mem hlt)
      have hr := ih ks[i] (by omega) (hok.get (List.getElem_mem hlt)) (by omega)
      have hps := putB_size ks[i] (hok.get (List.getElem_mem hlt))
      have hsnoc : putKs kinds (ks.take (i + 1)) = putKs kinds (ks.take i) ++ [wrapB (kinds.contains ks[i].kind) (putB ks[i])] := by
        rw [putKs_eq, putKs_eq, List.take_succ_eq_append_getElem hlt, List.map_append]; rfl
      have hkl : (putKs kinds (ks.take i)).length = i := by rw [putKs_eq]; simp; omega
      generalize ks[i] = x at hx hsm hr hps hsnoc
      generalize hacc : putKs kinds (ks.take i) = acc at hsnoc hkl
      cases x with
      | mk k' c' a' b' z' m' ks' =>
        simp only [Nd.cells, List.map_cons, List.map_nil, Nd.kind] at hr hsnoc
        have e1 : (⟨#[40, 63, 58]⟩ : ByteArray).size = 3 := rfl
        have e2 : (⟨#[41]⟩ : ByteArray).size = 1 := rfl
        simp -implicitDefEqProofs only [ev, ↓reduceIte, Nat.reduceAdd, Nat.reduceEqDiff, Nat.reduceLeDiff, reduceCtorEq, List.getElem?_map, hx, Nd.cells, Int.natCast_nonneg]
        refine acall_ret hr ?_
        simp -implicitDefEqProofs only [ev, ↓reduceIte, Nat.reduceAdd, Nat.reduceEqDiff, Nat.reduceLeDiff, reduceCtorEq]
        refine acall_ret (f55_ok kinds k') ?_
        cases hc : kinds.contains k' with
        | true =>
          simp -implicitDefEqProofs only [ev, ↓reduceIte, Nat.reduceAdd, Nat.reduceEqDiff, Nat.reduceLeDiff, reduceCtorEq, hc]
          refine ⟨by omega, by (try simp only [ByteArray.size_append]); omega, ⟨by omega, by omega⟩, (i + 1, ver + 1), by simp only; omega, by simp only; omega, wk_keep' (by simp) (by simp) ?_ ?_ ?_⟩
          · simp only [hsnoc, hc, rowsOf_snoc, rowsOf_take]
            exact ⟨⟨by simp, rfl⟩, trivial⟩
          · exact ⟨rowsOf_low _ _, trivial⟩
          · rw [wrap64 (by omega) (by omega)]
            simp only [wk, ↓reduceIte, Nat.reduceEqDiff, reduceCtorEq, Nat.reduceLT, hsnoc]
            simp
        | false =>
          simp -implicitDefEqProofs only [ev, ↓reduceIte, Nat.reduceAdd, Nat.reduceEqDiff, Nat.reduceLeDiff, reduceCtorEq, hc]
          refine ⟨⟨by omega, by omega⟩, (i + 1, ver + 1), by simp only; omega, by simp only; omega, wk_keep' (by simp) (by simp) ?_ ?_ ?_⟩
          · simp only [hsnoc, hc, rowsOf_snoc, rowsOf_take]
            exact ⟨⟨by simp, rfl⟩, trivial⟩
          · exact ⟨rowsOf_low _ _, trivial⟩
          · rw [wrap64 (by omega) (by omega)]
            simp only [wk, ↓reduceIte, Nat.reduceEqDiff, reduceCtorEq, Nat.reduceLT, hsnoc]
            simp
    · simp -implicitDefEqProofs only [ev, ↓reduceIte, Nat.reduceAdd, Nat.reduceEqDiff, Nat.reduceLeDiff, reduceCtorEq]
      have hi' : i = ks.length := by simp at h; omega
      subst hi'
      simp only [List.take_length]
      have hsz := joinB_size (putKs kinds ks) sep
      have hsz2 := putKs_size kinds sep.size hs ks hok
      refine acall_ret_fz [0] (join_ok (putKs kinds ks) sep (by omega)) (.cons (.one (cv_ownS (l := putKs kinds ks) (f := false) (fz := [0]) rfl (List.mem_singleton.2 rfl))) (.cons (.refl _) .nil)) ?_
      simp -implicitDefEqProofs only [ev, ↓reduceIte, Nat.reduceAdd, Nat.reduceEqDiff, Nat.reduceLeDiff, reduceCtorEq]
      exact fin_same (.one (by simp)) ⟨rfl, rfl⟩
end Go.Av

namespace Go.Av
open Go.RowKit Go.Proofs.Tryz

theorem nil_kinds {H : Hp} {x y : LV} : CvLVs H [x, y, .one (.iv (.sc (.slice none 0 0)))] [x, y, .one (.iv (.sl 1 (([] : List Int).map intRow)))] :=
  .cons (.refl _) (.cons (.refl _) (.cons (.one (.nilSl 1)) .nil))

theorem f13_step (n : Nat) (ih : ∀ (x : Nd), x.size < n → PutOk x → x.size ≤ 1000000 → Ret prog 13 [.agg (x.cells.map .iv)] (.one (sct (.string (putB x))))) (x : Nd) (hn : x.size ≤ n) (hok : PutOk x) (hb : x.size ≤ 1000000) :
    Ret prog 13 [.agg (x.cells.map .iv)] (.one (sct (.string (putB x)))) := by
  cases x with
  | mk k c a b z m ks =>
  have hsz := putB_size _ hok
  simp only [Nd.size] at hn hb hsz
  simp only [PutOk] at hok
  obtain ⟨hc, ha0, ha, hb0, hb1, hoks⟩ := hok
  have h33 := fun sep hs kinds => f33_step n ih k c a b z m ks (by omega) hoks (by omega) sep hs kinds
  have h34 := f34_ok k c a b z m ks ha0 ha hb0 hb1
  have hks := fun kinds sep hs => putKs_size kinds sep hs ks hoks
  have ht := timesB_size a b z
  have j3 := joinB_size (putKs [0, 6, 7, 8] ks) ⟨#[]⟩
  have j4 := joinB_size (putKs [] ks) ⟨#[]⟩
  have k3 := hks [0, 6, 7, 8] 0 (by omega)
  have k4 := hks [] 0 (by omega)
  have s0 : (⟨#[]⟩ : ByteArray).size = 0 := rfl
  have s2 : (⟨#[40]⟩ : ByteArray).size = 1 := rfl
  have s3 : (⟨#[41]⟩ : ByteArray).size = 1 := rfl
  rw [s0] at j3 j4
  refine .of r13_ok (by simp [Nd.cells]) (.one (by simp)) (by simp [r13]) ?_
  generalize hR : putB (Nd.mk k c a b z m ks) = R
  simp only [Nd.cells, List.map_cons, List.map_nil] at h33 h34
  simp only [oo, on, og, om, ol, oh, zN, ci, r13, initTm, Nat.reduceAdd, Nd.cells, List.map_cons, List.map_nil]
  cases h1 : k == 1 with
  | true =>
    simp -implicitDefEqProofs only [ev, ↓reduceIte, Nat.reduceAdd, Nat.reduceEqDiff, Nat.reduceLeDiff, reduceCtorEq, h1]
    refine acall_ret (f32_ok c hc) ?_
    simp -implicitDefEqProofs only [ev, ↓reduceIte, Nat.reduceAdd, Nat.reduceEqDiff, Nat.reduceLeDiff, reduceCtorEq]
    refine fin_same (.one (by simp)) ⟨?_, rfl⟩
    rw [← hR]; simp only [putB, h1, Bool.false_eq_true, if_false, if_true, sct]
  | false =>
  cases h2 : k == 2 with
  | true =>
    simp -implicitDefEqProofs only [ev, ↓reduceIte, Nat.reduceAdd, Nat.reduceEqDiff, Nat.reduceLeDiff, reduceCtorEq, h1, h2]
    refine fin_same (.one (by simp)) ⟨?_, rfl⟩
    rw [← hR]; simp only [putB, h1, h2, Bool.false_eq_true, if_false, if_true, sct]
  | false =>
  cases h3 : k == 3 with
  | true =>
    simp -implicitDefEqProofs only [ev, ↓reduceIte, Nat.reduceAdd, Nat.reduceEqDiff, Nat.reduceLeDiff, reduceCtorEq, h1, h2, h3]
    refine fin_same (.one (by simp)) ⟨?_, rfl⟩
    rw [← hR]; simp only [putB, h1, h2, h3, Bool.false_eq_true, if_false, if_true, sct]
  | false =>
  cases h4 : k == 4 with
  | true =>
    simp -implicitDefEqProofs only [ev, ↓reduceIte, Nat.reduceAdd, Nat.reduceEqDiff, Nat.reduceLeDiff, reduceCtorEq, h1, h2, h3, h4]
    refine fin_same (.one (by simp)) ⟨?_, rfl⟩
    rw [← hR]; simp only [putB, h1, h2, h3, h4, Bool.false_eq_true, if_false, if_true, sct]
  | false =>
  cases h5 : k == 5 with
  | true =>
    simp -implicitDefEqProofs only [ev, ↓reduceIte, Nat.reduceAdd, Nat.reduceEqDiff, Nat.reduceLeDiff, reduceCtorEq, h1, h2, h3, h4, h5]
    refine fin_same (.one (by simp)) ⟨?_, rfl⟩
    rw [← hR]; simp only [putB, h1, h2, h3, h4, h5, Bool.false_eq_true, if_false, if_true, sct]
  | false =>
  cases h6 : k == 6 with
  | true =>
    simp -implicitDefEqProofs only [ev, ↓reduceIte, Nat.reduceAdd, Nat.reduceEqDiff, Nat.reduceLeDiff, reduceCtorEq, h1, h2, h3, h4, h5, h6]
    refine acall_ret (h33 ⟨#[]⟩ (by decide) [7]) ?_
    simp -implicitDefEqProofs only [ev, ↓reduceIte, Nat.reduceAdd, Nat.reduceEqDiff, Nat.reduceLeDiff, reduceCtorEq]
    refine fin_same (.one (by simp)) ⟨?_, rfl⟩
    rw [← hR]; simp only [putB, h1, h2, h3, h4, h5, h6, Bool.false_eq_true, if_false, if_true, sct]
  | false =>
  cases h7 : k == 7 with
  | true =>
    simp -implicitDefEqProofs only [ev, ↓reduceIte, Nat.reduceAdd, Nat.reduceEqDiff, Nat.reduceLeDiff, reduceCtorEq, h1, h2, h3, h4, h5, h6, h7]
    refine acall_ret_fz [] (h33 ⟨#[124]⟩ (by decide) []) nil_kinds ?_
    simp only [Hp.prep_nil]
    simp -implicitDefEqProofs only [ev, ↓reduceIte, Nat.reduceAdd, Nat.reduceEqDiff, Nat.reduceLeDiff, reduceCtorEq]
    refine fin_same (.one (by simp)) ⟨?_, rfl⟩
    rw [← hR]; simp only [putB, h1, h2, h3, h4, h5, h6, h7, Bool.false_eq_true, if_false, if_true, sct]
  | false =>
  cases h8 : k == 8 with
  | true =>
    simp -implicitDefEqProofs only [ev, ↓reduceIte, Nat.reduceAdd, Nat.reduceEqDiff, Nat.reduceLeDiff, reduceCtorEq, h1, h2, h3, h4, h5, h6, h7, h8]
    refine dcall_ret (h33 ⟨#[]⟩ (by decide) [0, 6, 7, 8]) ?_
    simp -implicitDefEqProofs only [ev, ↓reduceIte, Nat.reduceAdd, Nat.reduceEqDiff, Nat.reduceLeDiff, reduceCtorEq]
    refine dcall_ret h34 ?_
    simp -implicitDefEqProofs only [ev, ↓reduceIte, Nat.reduceAdd, Nat.reduceEqDiff, Nat.reduceLeDiff, reduceCtorEq]
    refine ⟨by omega, ?_⟩
    refine fin_same (.one (by simp)) ⟨?_, rfl⟩
    rw [← hR]; simp only [putB, h1, h2, h3, h4, h5, h6, h7, h8, Bool.false_eq_true, if_false, if_true, sct]
  | false =>
  cases h9 : k == 9 with
  | true =>
    simp -implicitDefEqProofs only [ev, ↓reduceIte, Nat.reduceAdd, Nat.reduceEqDiff, Nat.reduceLeDiff, reduceCtorEq, h1, h2, h3, h4, h5, h6, h7, h8, h9]
    refine acall_ret_fz [] (h33 ⟨#[]⟩ (by decide) []) nil_kinds ?_
    simp only [Hp.prep_nil]
    simp -implicitDefEqProofs only [ev, ↓reduceIte, Nat.reduceAdd, Nat.reduceEqDiff, Nat.reduceLeDiff, reduceCtorEq]
    refine ⟨by omega, by (try simp only [ByteArray.size_append]); omega, ?_⟩
    refine fin_same (.one (by simp)) ⟨?_, rfl⟩
    rw [← hR]; simp only [putB, h1, h2, h3, h4, h5, h6, h7, h8, h9, Bool.false_eq_true, if_false, if_true, sct]
  | false =>
    simp -implicitDefEqProofs only [ev, ↓reduceIte, Nat.reduceAdd, Nat.reduceEqDiff, Nat.reduceLeDiff, reduceCtorEq, h1, h2, h3, h4, h5, h6, h7, h8, h9]
    refine fin_same (.one (by simp)) ⟨?_, rfl⟩
    rw [← hR]; simp only [putB, h1, h2, h3, h4, h5, h6, h7, h8, h9, Bool.false_eq_true, if_false, if_true, sct]

theorem f13_all (n : Nat) : ∀ (x : Nd), x.size ≤ n → PutOk x → x.size ≤ 1000000 → Ret prog 13 [.agg (x.cells.map .iv)] (.one (sct (.string (putB x)))) := by
  induction n with
  | zero => intro x hx; cases x; simp [Nd.size] at hx
  | succ n ih => intro x hx h1 h2; exact f13_step (n + 1) (fun x h => ih x (by omega)) x hx h1 h2
theorem f13_ok (x : Nd) (hok : PutOk x) (hb : x.size ≤ 1000000) : Ret prog 13 [.agg (x.cells.map .iv)] (.one (sct (.string (putB x)))) := f13_all _ x (Nat.le_refl _) hok hb
end Go.Av

