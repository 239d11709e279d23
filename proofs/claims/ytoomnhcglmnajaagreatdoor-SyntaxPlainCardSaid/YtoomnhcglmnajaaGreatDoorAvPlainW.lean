/-
  Letters and a special one, and the walk of their law; no condition.
-/
import Derived.Test.YtoomnhcglmnajaaGreatDoorAvThree
import Derived.Test.YtoomnhcglmnajaaGreatDoorAvFrame
import Derived.Test.YtoomnhcglmnajaaGreatDoorAvSeq
set_option linter.unusedVariables false
set_option linter.unusedSimpArgs false
namespace Go.Av
open Go.RowKit

/-! ### letters, and a special one -/
def lettersB : List ByteArray := [⟨#[97]⟩, ⟨#[66]⟩, ⟨#[55]⟩, ⟨#[95]⟩, ⟨#[32]⟩, ⟨#[195, 169]⟩, ⟨#[226, 130, 172]⟩, ⟨#[45]⟩]
def lettersR : List Int := [97, 66, 55, 95, 32, 233, 8364, 45]
def letAt (b : Int) : ByteArray := lettersB.getD (b.tmod 8).toNat ⟨#[]⟩
def letR (b : Int) : Int := lettersR.getD (b.tmod 8).toNat 0
def plainB (l : List Int) : ByteArray := (l.take 40).foldl (fun s b => s ++ letAt b) ⟨#[]⟩
def plainL (l : List Int) : List Nd := (l.take 40).map fun b => runeN (letR b)
def specC : List UInt8 := [92, 46, 91, 93, 40, 41, 42, 43, 63, 123, 125, 124, 94, 36]
def specAt (p : Int) : UInt8 := specC.getD (p.tmod 14).toNat 0

theorem letters_all : ∀ k : _root_.Fin 8, okR (lettersR.getD k.val 0) = true ∧ (lettersB.getD k.val ⟨#[]⟩).data.toList = (putI (runeN (lettersR.getD k.val 0))).flatMap unitL ∧ (∀ r ∈ putI (runeN (lettersR.getD k.val 0)), nB r = true) ∧ (lettersB.getD k.val ⟨#[]⟩).size ≤ 3 := by decide
theorem specs_all : ∀ k : _root_.Fin 14, okR ((specC.getD k.val 0).toNat : Int) = true ∧ ([92, specC.getD k.val 0] : List UInt8) = (putI (runeN (specC.getD k.val 0).toNat)).flatMap unitL ∧ (∀ r ∈ putI (runeN (specC.getD k.val 0).toNat), nB r = true) := by decide
theorem mod8 {b : Int} (h : 0 ≤ b) : (b.tmod 8).toNat < 8 := by
  have := Int.tmod_lt_of_pos b (show (0 : Int) < 8 by decide)
  have := Int.tmod_nonneg 8 h
  omega
theorem mod14 {b : Int} (h : 0 ≤ b) : (b.tmod 14).toNat < 14 := by
  have := Int.tmod_lt_of_pos b (show (0 : Int) < 14 by decide)
  have := Int.tmod_nonneg 14 h
  omega
theorem let_pc {b : Int} (h : 0 ≤ b) : Pc (runeN (letR b)) := rune_pc (letters_all ⟨_, mod8 h⟩).1
theorem let_txt {b : Int} (h : 0 ≤ b) : Txt (letAt b) (putI (runeN (letR b))) := txt_of (letters_all ⟨_, mod8 h⟩).2.1 (letters_all ⟨_, mod8 h⟩).2.2.1
theorem let_size {b : Int} (h : 0 ≤ b) : (letAt b).size ≤ 3 := (letters_all ⟨_, mod8 h⟩).2.2.2
theorem spec_pc {b : Int} (h : 0 ≤ b) : Pc (runeN (specAt b).toNat) := rune_pc (specs_all ⟨_, mod14 h⟩).1
theorem spec_txt {b : Int} (h : 0 ≤ b) : Txt ⟨#[92, specAt b]⟩ (putI (runeN (specAt b).toNat)) := txt_of (specs_all ⟨_, mod14 h⟩).2.1 (specs_all ⟨_, mod14 h⟩).2.2
theorem fold_let : ∀ (l : List Int) (s : ByteArray) (m : List Int), (∀ b ∈ l, 0 ≤ b) → Txt s m → Txt (l.foldl (fun s b => s ++ letAt b) s) (m ++ (l.map fun b => runeN (letR b)).flatMap putI) ∧ (l.foldl (fun s b => s ++ letAt b) s).size ≤ s.size + 3 * l.length
  | [], s, m, _, h => by simpa using h
  | b :: r, s, m, hb, h => by
    have h0 := hb b (by simp)
    obtain ⟨h1, h2⟩ := fold_let r (s ++ letAt b) _ (fun c hc => hb c (by simp [hc])) (h.append (let_txt h0))
    have := let_size h0
    rw [ByteArray.size_append] at h2
    refine ⟨by simpa using h1, by simp only [List.foldl_cons, List.length_cons]; omega⟩
theorem runes_nums : ∀ (l : List Int) (g : Int), nums (l.map runeN) g = some g
  | [], g => rfl
  | b :: r, g => by
    have h : num (runeN b) g = some g := by simp [runeN, oneN, num, nums]
    simp [nums, h, runes_nums r g]
theorem runes_size : ∀ (l : List Int), ndSize (l.map runeN) = l.length
  | [] => rfl
  | b :: r => by
    have h : (runeN b).size = 1 := rfl
    simp only [List.map_cons, ndSize, h, runes_size r, List.length_cons]; omega
theorem runes_groups : ∀ (l : List Int), ndGroups 0 (l.map runeN) = 0
  | [] => rfl
  | b :: r => by
    have e : (runeN b).groups = 0 := rfl
    simp only [List.map_cons, ndGroups, e]
    rw [imax_ge (by decide), runes_groups r]
def plainR (l : List Int) : List Int := (l.take 40).map letR
theorem plainL_eq (l : List Int) : plainL l = (plainR l).map runeN := by rw [plainL, plainR, List.map_map]; rfl

theorem plain_facts {l : List Int} {p : Int} (hl : ∀ b ∈ l, 0 ≤ b) (hp : 0 ≤ p) :
    (parse3 (plainB l) = (seqN (plainL l), ((plainB l).size : Int), 0) ∧ putB (seqN (plainL l)) = plainB l ∧ Ok (seqN (plainL l)) ∧
      (seqN (plainL l)).size = if (l.take 40).length = 1 then 1 else (l.take 40).length + 1) ∧
    (parse3 (plainB l ++ ⟨#[92, specAt p]⟩) = (seqN (plainL l ++ [runeN (specAt p).toNat]), ((plainB l ++ ⟨#[92, specAt p]⟩).size : Int), 0) ∧ putB (seqN (plainL l ++ [runeN (specAt p).toNat])) = plainB l ++ ⟨#[92, specAt p]⟩ ∧
      Ok (seqN (plainL l ++ [runeN (specAt p).toNat])) ∧ ((seqN (plainL l ++ [runeN (specAt p).toNat])).size = if (l.take 40).length = 0 then 1 else (l.take 40).length + 2) ∧ (seqN (plainL l ++ [runeN (specAt p).toNat])).groups = 0) ∧ (plainB l).size ≤ 120 := by
  have h0 : ∀ b ∈ l.take 40, 0 ≤ b := fun b hb => hl b (List.mem_of_mem_take hb)
  obtain ⟨h1, h2⟩ := fold_let (l.take 40) ⟨#[]⟩ [] h0 .nil
  have hlen : (l.take 40).length ≤ 40 := by rw [List.length_take]; omega
  have hz : (plainB l).size ≤ 120 := by
    have e : (⟨#[]⟩ : ByteArray).size = 0 := rfl
    rw [e] at h2
    exact Nat.le_trans h2 (by omega)
  have hpc : ∀ y ∈ plainL l, Pc y := by
    intro y hy
    obtain ⟨b, hb, rfl⟩ := List.mem_map.1 hy
    exact let_pc (h0 b hb)
  have hpc2 : ∀ y ∈ plainL l ++ [runeN (specAt p).toNat], Pc y := by
    intro y hy
    rcases List.mem_append.1 hy with hy | hy
    · exact hpc y hy
    · simp at hy; subst hy; exact spec_pc hp
  have ht : Txt (plainB l) ((plainL l).flatMap putI) := by simpa [plainB, plainL] using h1
  have ht2 : Txt (plainB l ++ ⟨#[92, specAt p]⟩) ((plainL l ++ [runeN (specAt p).toNat]).flatMap putI) := by
    have := ht.append (spec_txt hp)
    simpa [List.flatMap_append] using this
  have e2 : plainL l ++ [runeN (specAt p).toNat] = (plainR l ++ [((specAt p).toNat : Int)]).map runeN := by rw [plainL_eq, List.map_append]; rfl
  have hn1 : nums (plainL l) 0 = some 0 := by rw [plainL_eq]; exact runes_nums _ _
  have hn2 : nums (plainL l ++ [runeN (specAt p).toNat]) 0 = some 0 := by rw [e2]; exact runes_nums _ _
  have hL : (plainL l).length = (l.take 40).length := by simp [plainL]
  have hL' : (plainR l).length = (l.take 40).length := by simp [plainR]
  obtain ⟨a1, a2⟩ := seq_parse hpc hn1 (by decide) ht (by omega)
  have e3 : (⟨#[92, specAt p]⟩ : ByteArray).size = 2 := rfl
  obtain ⟨b1, b2⟩ := seq_parse hpc2 hn2 (by decide) ht2 (by rw [ByteArray.size_append, e3]; omega)
  refine ⟨⟨a1, a2, seq_ok hpc, ?_⟩, ⟨b1, b2, seq_ok hpc2, ?_, ?_⟩, hz⟩
  · rw [seq_size, hL, plainL_eq, runes_size, hL']
    split <;> omega
  · rw [seq_size, List.length_append, hL, e2, runes_size, List.length_append, hL']
    simp only [List.length_cons, List.length_nil]
    split <;> split <;> omega
  · rw [seq_groups, e2, runes_groups]
end Go.Av

namespace Go.Av
open Go.RowKit Go.Proofs.Tryz

theorem f5_ok (l : List Int) (p : Int) (hl : ∀ b ∈ l, 0 ≤ b) (hp : 0 ≤ p ∧ p < 256) : Ret prog 5 [.one (.iv (.sl 1 (l.map u8Row))), .one (sct (.int .u8 p))] (.one (sct (.bool true))) := by
  obtain ⟨⟨h1, h2, h3, h4⟩, ⟨g1, g2, g3, g4, g5⟩, hz⟩ := plain_facts hl hp.1
  have hn40 : (l.take 40).length ≤ 40 := by rw [List.length_take]; omega
  have pA := ret_parse h1
  have pB := ret_parse g1
  have pPA := f13_ok _ (ok_put h3) (by rw [h4]; split <;> omega)
  have pPB := f13_ok _ (ok_put g3) (by rw [g4]; split <;> omega)
  have pSA := f20_ok (seqN (plainL l)) (by rw [h4]; split <;> omega)
  have pSB := f20_ok (seqN (plainL l ++ [runeN (specAt p).toNat])) (by rw [g4]; split <;> omega)
  have pGB := f22_ok (seqN (plainL l ++ [runeN (specAt p).toNat]))
  rw [h2] at pPA
  rw [g2] at pPB
  rw [h4] at pSA
  rw [g4] at pSB
  rw [g5] at pGB
  clear h1 h2 h3 h4 g1 g2 g3 g4 g5
  generalize seqN (plainL l) = x at pA pPA pSA
  generalize seqN (plainL l ++ [runeN (specAt p).toNat]) = y at pB pPB pSB pGB
  obtain ⟨R, hR⟩ : ∃ R, plainB l = R := ⟨_, rfl⟩
  rw [hR] at pA pPA pB pPB hz
  obtain ⟨N, hN⟩ : ∃ N, (l.take 40).length = N := ⟨_, rfl⟩
  rw [hN] at pSA pSB hn40
  have hNl : N = min 40 l.length := by rw [← hN, List.length_take]
  obtain ⟨j, hj, ej⟩ : ∃ j : Nat, j < 14 ∧ p.tmod 14 = (j : Int) := ⟨(p.tmod 14).toNat, mod14 hp.1, by have := Int.tmod_nonneg 14 hp.1; omega⟩
  have hw : IntKind.u8.wrap ((j : Int) + 1) = ((j + 1 : Nat) : Int) := by
    have : j = 0 ∨ j = 1 ∨ j = 2 ∨ j = 3 ∨ j = 4 ∨ j = 5 ∨ j = 6 ∨ j = 7 ∨ j = 8 ∨ j = 9 ∨ j = 10 ∨ j = 11 ∨ j = 12 ∨ j = 13 := by omega
    rcases this with e | e | e | e | e | e | e | e | e | e | e | e | e | e <;> rw [e] <;> rfl
  have hext : (⟨#[92, 46, 91, 93, 40, 41, 42, 43, 63, 123, 125, 124, 94, 36]⟩ : ByteArray).extract j (j + 1) = ⟨#[specAt p]⟩ := by
    unfold specAt
    rw [ej, Int.toNat_natCast]
    have : j = 0 ∨ j = 1 ∨ j = 2 ∨ j = 3 ∨ j = 4 ∨ j = 5 ∨ j = 6 ∨ j = 7 ∨ j = 8 ∨ j = 9 ∨ j = 10 ∨ j = 11 ∨ j = 12 ∨ j = 13 := by omega
    rcases this with e | e | e | e | e | e | e | e | e | e | e | e | e | e <;> rw [e] <;> decide
  have hcat : (⟨#[92]⟩ : ByteArray) ++ ⟨#[specAt p]⟩ = ⟨#[92, specAt p]⟩ := rfl
  have z14 : ((⟨#[92, 46, 91, 93, 40, 41, 42, 43, 63, 123, 125, 124, 94, 36]⟩ : ByteArray).size : Int) = 14 := rfl
  have z1 : (⟨#[92]⟩ : ByteArray).size = 1 := rfl
  have z1' : (⟨#[specAt p]⟩ : ByteArray).size = 1 := rfl
  have z2 : (⟨#[92, specAt p]⟩ : ByteArray).size = 2 := rfl
  have hmin : (if (40 : Int) < (l.length : Int) then 40 else (l.length : Int)) = (N : Int) := by split <;> omega
  obtain ⟨SA, hSA⟩ : ∃ SA : Int, ((if N = 1 then 1 else N + 1 : Nat) : Int) = SA := ⟨_, rfl⟩
  obtain ⟨SB, hSB⟩ : ∃ SB : Int, ((if N = 0 then 1 else N + 2 : Nat) : Int) = SB := ⟨_, rfl⟩
  rw [hSA] at pSA
  rw [hSB] at pSB
  have c4 : 1 ≤ N → (SB == IntKind.i64.wrap ((N : Int) + 2)) = true := fun h => by
    rw [wrap64 (by omega) (by omega), ← hSB, if_neg (by omega), beq_iff_eq]; omega
  have hcase : N = 0 ∨ N = 1 ∨ 2 ≤ N := by omega
  cases x with
  | mk k c' a' b' z m ks =>
  cases y with
  | mk k2 c2 a2 b2 z2' m2 ks2 =>
  simp only [encN_mk] at pA pB
  simp only [Nd.cells, List.map_cons, List.map_nil] at pPA pPB pSA pSB pGB
  have hz0 : ((0 : Int) == 0) = true := rfl
  refine .of r5_ok (by simp) (.one (by simp)) (by simp [r5]) ?_
  simp only [r5, initTm, Nat.reduceAdd]
  simp -implicitDefEqProofs only [ev, ↓reduceIte, Nat.reduceAdd, Nat.reduceEqDiff, Nat.reduceSub, Nat.reduceBEq, Nat.reduceLeDiff, reduceCtorEq]
  refine acall_ret f9_ok ?_
  simp -implicitDefEqProofs only [ev, ↓reduceIte, Nat.reduceAdd, Nat.reduceEqDiff, Nat.reduceSub, Nat.reduceBEq, Nat.reduceLeDiff, reduceCtorEq, awp_loop]
  refine aloop_mk (σ := Nat × ByteArray) (fun q => [(0, .one (.iv (.sl 1 (l.map u8Row)))), (1, .one (sct (.int .u8 p))), (5, .one (sct (.bool true))), (6, .one (sct (.string q.2))), (7, .one (sct (.int .i64 (q.1 : Nat))))])
    (fun _ => Hp.nil) (fun q => q.1 ≤ l.length ∧ q.1 ≤ 40 ∧ q.2.size ≤ 3 * q.1 ∧ ((l.take 40).drop q.1).foldl (fun s b => s ++ letAt b) q.2 = R) (fun q => l.length - q.1) (0, ⟨#[]⟩) ⟨by simp, by simp, by decide, by rw [← hR]; rfl⟩ (wk_none ?_) ?_
  · simp only [wk, ↓reduceIte, Nat.reduceEqDiff, reduceCtorEq, Nat.reduceLT]
    simp
  rintro ⟨i, out⟩ ⟨hi, hi40, hsz, hF⟩
  simp only at hi hi40 hsz hF
  simp only [r5_l0]
  simp -implicitDefEqProofs only [ev, ↓reduceIte, Nat.reduceAdd, Nat.reduceEqDiff, Nat.reduceSub, Nat.reduceBEq, Nat.reduceLeDiff, reduceCtorEq]
  refine .mk fun hb => ?_
  simp -implicitDefEqProofs only [ev, ↓reduceIte, Nat.reduceAdd, Nat.reduceEqDiff, Nat.reduceSub, Nat.reduceBEq, Nat.reduceLeDiff, reduceCtorEq]
  have endl : ¬ (i < l.length ∧ i < 40) → out = R := by
    intro h
    have : (l.take 40).length ≤ i := by rw [List.length_take]; omega
    rw [List.drop_eq_nil_of_le this] at hF
    exact hF
  refine .mk (fun h => ?_) (fun h => ?_)
  · simp -implicitDefEqProofs only [ev, ↓reduceIte, Nat.reduceAdd, Nat.reduceEqDiff, Nat.reduceSub, Nat.reduceBEq, Nat.reduceLeDiff, reduceCtorEq]
    refine .mk (fun h2 => ?_) (fun h2 => ?_)
    · have hlt : i < l.length := by simpa using h
      have hlt2 : i < 40 := by have := of_decide_eq_true h2; omega
      have hx := List.getElem?_eq_getElem hlt
      have hb0 : 0 ≤ l[i] := hl _ (List.getElem_mem hlt)
      have hd : (l.take 40).drop i = l[i] :: (l.take 40).drop (i + 1) := by
        have hlt' : i < (l.take 40).length := by rw [List.length_take]; omega
        rw [List.drop_eq_getElem_cons hlt', List.getElem_take]
      rw [hd, List.foldl_cons] at hF
      generalize l[i] = b at hx hb0 hF
      have k1 := mod8 hb0
      have k0 : 0 ≤ b.tmod 8 := Int.tmod_nonneg 8 hb0
      have hg : ([[IV.sc (.string ⟨#[97]⟩)], [IV.sc (.string ⟨#[66]⟩)], [IV.sc (.string ⟨#[55]⟩)], [IV.sc (.string ⟨#[95]⟩)], [IV.sc (.string ⟨#[32]⟩)], [IV.sc (.string ⟨#[195, 169]⟩)], [IV.sc (.string ⟨#[226, 130, 172]⟩)], [IV.sc (.string ⟨#[45]⟩)]] : List (List IV))[(b.tmod 8).toNat]? = some [IV.sc (.string (letAt b))] := by
        unfold letAt
        generalize (b.tmod 8).toNat = j at k1
        have : j = 0 ∨ j = 1 ∨ j = 2 ∨ j = 3 ∨ j = 4 ∨ j = 5 ∨ j = 6 ∨ j = 7 := by omega
        rcases this with e | e | e | e | e | e | e | e <;> rw [e] <;> rfl
      have hsp := let_size hb0
      simp -implicitDefEqProofs only [ev, ↓reduceIte, Nat.reduceAdd, Nat.reduceEqDiff, Nat.reduceSub, Nat.reduceBEq, Nat.reduceLeDiff, reduceCtorEq, List.getElem?_map, hx, u8Row, Int.natCast_nonneg, hg]
      refine ⟨by decide, k0, by omega, ⟨(i + 1, out ++ letAt b), ⟨by simp only; omega, by simp only; omega, by simp only [ByteArray.size_append]; omega, by simp only; exact hF⟩, by simp only; omega, wk_none ?_⟩⟩
      rw [wrap64 (by omega) (by omega)]
      simp only [wk, ↓reduceIte, Nat.reduceEqDiff, reduceCtorEq, Nat.reduceLT]
      simp
    · obtain rfl : out = R := endl (by have := of_decide_eq_false h2; omega)
      simp -implicitDefEqProofs only [ev, ↓reduceIte, Nat.reduceAdd, Nat.reduceEqDiff, Nat.reduceSub, Nat.reduceBEq, Nat.reduceLeDiff, reduceCtorEq]
      refine .mk fun hq => ?_
      simp -implicitDefEqProofs only [ev, ↓reduceIte, Nat.reduceAdd, Nat.reduceEqDiff, Nat.reduceSub, Nat.reduceBEq, Nat.reduceLeDiff, reduceCtorEq, ej, hw, hext, hcat, Int.toNat_natCast, hmin]
      refine ⟨by decide, by decide, ⟨by omega, by omega, by omega⟩, by omega, ?_⟩
      refine acall_ret pA ?_
      simp -implicitDefEqProofs only [ev, ↓reduceIte, Nat.reduceAdd, Nat.reduceEqDiff, Nat.reduceSub, Nat.reduceBEq, Nat.reduceLeDiff, reduceCtorEq]
      refine ⟨by omega, acall_ret pB ?_⟩
      simp -implicitDefEqProofs only [ev, ↓reduceIte, Nat.reduceAdd, Nat.reduceEqDiff, Nat.reduceSub, Nat.reduceBEq, Nat.reduceLeDiff, reduceCtorEq, hmin]
      rcases hcase with hN0 | hN1 | hN2
      · have c1 : ((N : Int) == 1) = false := by simp; omega
        have c2 : (SA == IntKind.i64.wrap ((N : Int) + 1)) = true := by
          rw [wrap64 (by omega) (by omega), ← hSA, if_neg (by omega), beq_iff_eq]; omega
        have c3 : decide ((N : Int) < 1) = true := by simp; omega
        simp -implicitDefEqProofs only [ev, ↓reduceIte, Nat.reduceAdd, Nat.reduceEqDiff, Nat.reduceSub, Nat.reduceBEq, Nat.reduceLeDiff, reduceCtorEq, c1]
        refine acall_ret pPA ?_
        have tt : (out.toList == out.toList) = true := beq_self_eq_true _
        have tt2 : ((out ++ ⟨#[92, specAt p]⟩).toList == (out ++ ⟨#[92, specAt p]⟩).toList) = true := beq_self_eq_true _
        simp -implicitDefEqProofs only [ev, ↓reduceIte, Nat.reduceAdd, Nat.reduceEqDiff, Nat.reduceSub, Nat.reduceBEq, Nat.reduceLeDiff, reduceCtorEq, tt]
        refine acall_ret pPB ?_
        simp -implicitDefEqProofs only [ev, ↓reduceIte, Nat.reduceAdd, Nat.reduceEqDiff, Nat.reduceSub, Nat.reduceBEq, Nat.reduceLeDiff, reduceCtorEq, tt2]
        refine ⟨by omega, ?_⟩
        have c5 : (((out ++ ⟨#[92, specAt p]⟩ : ByteArray).size : Int) == IntKind.i64.wrap ((out.size : Int) + 2)) = true := by
          rw [wrap64 (by omega) (by omega), ByteArray.size_append, z2, beq_iff_eq]; omega
        simp -implicitDefEqProofs only [ev, ↓reduceIte, Nat.reduceAdd, Nat.reduceEqDiff, Nat.reduceSub, Nat.reduceBEq, Nat.reduceLeDiff, reduceCtorEq, c5]
        refine acall_ret pSA ?_
        simp -implicitDefEqProofs only [ev, ↓reduceIte, Nat.reduceAdd, Nat.reduceEqDiff, Nat.reduceSub, Nat.reduceBEq, Nat.reduceLeDiff, reduceCtorEq, c2, c3]
        refine acall_ret pGB ?_
        simp -implicitDefEqProofs only [ev, ↓reduceIte, Nat.reduceAdd, Nat.reduceEqDiff, Nat.reduceSub, Nat.reduceBEq, Nat.reduceLeDiff, reduceCtorEq, hz0]
        exact fin_same (.one (by simp)) ⟨rfl, rfl⟩
      · have c1 : ((N : Int) == 1) = true := by simp; omega
        have c2 : (SA == 1) = true := by
          rw [← hSA, if_pos (by omega), beq_iff_eq]; omega
        have c3 : decide ((N : Int) < 1) = false := by simp; omega
        simp -implicitDefEqProofs only [ev, ↓reduceIte, Nat.reduceAdd, Nat.reduceEqDiff, Nat.reduceSub, Nat.reduceBEq, Nat.reduceLeDiff, reduceCtorEq, c1]
        refine acall_ret pPA ?_
        have tt : (out.toList == out.toList) = true := beq_self_eq_true _
        have tt2 : ((out ++ ⟨#[92, specAt p]⟩).toList == (out ++ ⟨#[92, specAt p]⟩).toList) = true := beq_self_eq_true _
        simp -implicitDefEqProofs only [ev, ↓reduceIte, Nat.reduceAdd, Nat.reduceEqDiff, Nat.reduceSub, Nat.reduceBEq, Nat.reduceLeDiff, reduceCtorEq, tt]
        refine acall_ret pPB ?_
        simp -implicitDefEqProofs only [ev, ↓reduceIte, Nat.reduceAdd, Nat.reduceEqDiff, Nat.reduceSub, Nat.reduceBEq, Nat.reduceLeDiff, reduceCtorEq, tt2]
        refine ⟨by omega, ?_⟩
        have c5 : (((out ++ ⟨#[92, specAt p]⟩ : ByteArray).size : Int) == IntKind.i64.wrap ((out.size : Int) + 2)) = true := by
          rw [wrap64 (by omega) (by omega), ByteArray.size_append, z2, beq_iff_eq]; omega
        simp -implicitDefEqProofs only [ev, ↓reduceIte, Nat.reduceAdd, Nat.reduceEqDiff, Nat.reduceSub, Nat.reduceBEq, Nat.reduceLeDiff, reduceCtorEq, c5]
        refine acall_ret pSA ?_
        simp -implicitDefEqProofs only [ev, ↓reduceIte, Nat.reduceAdd, Nat.reduceEqDiff, Nat.reduceSub, Nat.reduceBEq, Nat.reduceLeDiff, reduceCtorEq, c2, c3]
        refine acall_ret pSB ?_
        simp -implicitDefEqProofs only [ev, ↓reduceIte, Nat.reduceAdd, Nat.reduceEqDiff, Nat.reduceSub, Nat.reduceBEq, Nat.reduceLeDiff, reduceCtorEq, c4 (by omega)]
        refine acall_ret pGB ?_
        simp -implicitDefEqProofs only [ev, ↓reduceIte, Nat.reduceAdd, Nat.reduceEqDiff, Nat.reduceSub, Nat.reduceBEq, Nat.reduceLeDiff, reduceCtorEq, hz0]
        exact fin_same (.one (by simp)) ⟨rfl, rfl⟩
      · have c1 : ((N : Int) == 1) = false := by simp; omega
        have c2 : (SA == IntKind.i64.wrap ((N : Int) + 1)) = true := by
          rw [wrap64 (by omega) (by omega), ← hSA, if_neg (by omega), beq_iff_eq]; omega
        have c3 : decide ((N : Int) < 1) = false := by simp; omega
        simp -implicitDefEqProofs only [ev, ↓reduceIte, Nat.reduceAdd, Nat.reduceEqDiff, Nat.reduceSub, Nat.reduceBEq, Nat.reduceLeDiff, reduceCtorEq, c1]
        refine acall_ret pPA ?_
        have tt : (out.toList == out.toList) = true := beq_self_eq_true _
        have tt2 : ((out ++ ⟨#[92, specAt p]⟩).toList == (out ++ ⟨#[92, specAt p]⟩).toList) = true := beq_self_eq_true _
        simp -implicitDefEqProofs only [ev, ↓reduceIte, Nat.reduceAdd, Nat.reduceEqDiff, Nat.reduceSub, Nat.reduceBEq, Nat.reduceLeDiff, reduceCtorEq, tt]
        refine acall_ret pPB ?_
        simp -implicitDefEqProofs only [ev, ↓reduceIte, Nat.reduceAdd, Nat.reduceEqDiff, Nat.reduceSub, Nat.reduceBEq, Nat.reduceLeDiff, reduceCtorEq, tt2]
        refine ⟨by omega, ?_⟩
        have c5 : (((out ++ ⟨#[92, specAt p]⟩ : ByteArray).size : Int) == IntKind.i64.wrap ((out.size : Int) + 2)) = true := by
          rw [wrap64 (by omega) (by omega), ByteArray.size_append, z2, beq_iff_eq]; omega
        simp -implicitDefEqProofs only [ev, ↓reduceIte, Nat.reduceAdd, Nat.reduceEqDiff, Nat.reduceSub, Nat.reduceBEq, Nat.reduceLeDiff, reduceCtorEq, c5]
        refine acall_ret pSA ?_
        simp -implicitDefEqProofs only [ev, ↓reduceIte, Nat.reduceAdd, Nat.reduceEqDiff, Nat.reduceSub, Nat.reduceBEq, Nat.reduceLeDiff, reduceCtorEq, c2, c3]
        refine acall_ret pSB ?_
        simp -implicitDefEqProofs only [ev, ↓reduceIte, Nat.reduceAdd, Nat.reduceEqDiff, Nat.reduceSub, Nat.reduceBEq, Nat.reduceLeDiff, reduceCtorEq, c4 (by omega)]
        refine acall_ret pGB ?_
        simp -implicitDefEqProofs only [ev, ↓reduceIte, Nat.reduceAdd, Nat.reduceEqDiff, Nat.reduceSub, Nat.reduceBEq, Nat.reduceLeDiff, reduceCtorEq, hz0]
        exact fin_same (.one (by simp)) ⟨rfl, rfl⟩
  · obtain rfl : out = R := endl (by have := of_decide_eq_false h; omega)
    simp -implicitDefEqProofs only [ev, ↓reduceIte, Nat.reduceAdd, Nat.reduceEqDiff, Nat.reduceSub, Nat.reduceBEq, Nat.reduceLeDiff, reduceCtorEq]
    refine .mk fun hq => ?_
    simp -implicitDefEqProofs only [ev, ↓reduceIte, Nat.reduceAdd, Nat.reduceEqDiff, Nat.reduceSub, Nat.reduceBEq, Nat.reduceLeDiff, reduceCtorEq, ej, hw, hext, hcat, Int.toNat_natCast, hmin]
    refine ⟨by decide, by decide, ⟨by omega, by omega, by omega⟩, by omega, ?_⟩
    refine acall_ret pA ?_
    simp -implicitDefEqProofs only [ev, ↓reduceIte, Nat.reduceAdd, Nat.reduceEqDiff, Nat.reduceSub, Nat.reduceBEq, Nat.reduceLeDiff, reduceCtorEq]
    refine ⟨by omega, acall_ret pB ?_⟩
    simp -implicitDefEqProofs only [ev, ↓reduceIte, Nat.reduceAdd, Nat.reduceEqDiff, Nat.reduceSub, Nat.reduceBEq, Nat.reduceLeDiff, reduceCtorEq, hmin]
    rcases hcase with hN0 | hN1 | hN2
    · have c1 : ((N : Int) == 1) = false := by simp; omega
      have c2 : (SA == IntKind.i64.wrap ((N : Int) + 1)) = true := by
        rw [wrap64 (by omega) (by omega), ← hSA, if_neg (by omega), beq_iff_eq]; omega
      have c3 : decide ((N : Int) < 1) = true := by simp; omega
      simp -implicitDefEqProofs only [ev, ↓reduceIte, Nat.reduceAdd, Nat.reduceEqDiff, Nat.reduceSub, Nat.reduceBEq, Nat.reduceLeDiff, reduceCtorEq, c1]
      refine acall_ret pPA ?_
      have tt : (out.toList == out.toList) = true := beq_self_eq_true _
      have tt2 : ((out ++ ⟨#[92, specAt p]⟩).toList == (out ++ ⟨#[92, specAt p]⟩).toList) = true := beq_self_eq_true _
      simp -implicitDefEqProofs only [ev, ↓reduceIte, Nat.reduceAdd, Nat.reduceEqDiff, Nat.reduceSub, Nat.reduceBEq, Nat.reduceLeDiff, reduceCtorEq, tt]
      refine acall_ret pPB ?_
      simp -implicitDefEqProofs only [ev, ↓reduceIte, Nat.reduceAdd, Nat.reduceEqDiff, Nat.reduceSub, Nat.reduceBEq, Nat.reduceLeDiff, reduceCtorEq, tt2]
      refine ⟨by omega, ?_⟩
      have c5 : (((out ++ ⟨#[92, specAt p]⟩ : ByteArray).size : Int) == IntKind.i64.wrap ((out.size : Int) + 2)) = true := by
        rw [wrap64 (by omega) (by omega), ByteArray.size_append, z2, beq_iff_eq]; omega
      simp -implicitDefEqProofs only [ev, ↓reduceIte, Nat.reduceAdd, Nat.reduceEqDiff, Nat.reduceSub, Nat.reduceBEq, Nat.reduceLeDiff, reduceCtorEq, c5]
      refine acall_ret pSA ?_
      simp -implicitDefEqProofs only [ev, ↓reduceIte, Nat.reduceAdd, Nat.reduceEqDiff, Nat.reduceSub, Nat.reduceBEq, Nat.reduceLeDiff, reduceCtorEq, c2, c3]
      refine acall_ret pGB ?_
      simp -implicitDefEqProofs only [ev, ↓reduceIte, Nat.reduceAdd, Nat.reduceEqDiff, Nat.reduceSub, Nat.reduceBEq, Nat.reduceLeDiff, reduceCtorEq, hz0]
      exact fin_same (.one (by simp)) ⟨rfl, rfl⟩
    · have c1 : ((N : Int) == 1) = true := by simp; omega
      have c2 : (SA == 1) = true := by
        rw [← hSA, if_pos (by omega), beq_iff_eq]; omega
      have c3 : decide ((N : Int) < 1) = false := by simp; omega
      simp -implicitDefEqProofs only [ev, ↓reduceIte, Nat.reduceAdd, Nat.reduceEqDiff, Nat.reduceSub, Nat.reduceBEq, Nat.reduceLeDiff, reduceCtorEq, c1]
      refine acall_ret pPA ?_
      have tt : (out.toList == out.toList) = true := beq_self_eq_true _
      have tt2 : ((out ++ ⟨#[92, specAt p]⟩).toList == (out ++ ⟨#[92, specAt p]⟩).toList) = true := beq_self_eq_true _
      simp -implicitDefEqProofs only [ev, ↓reduceIte, Nat.reduceAdd, Nat.reduceEqDiff, Nat.reduceSub, Nat.reduceBEq, Nat.reduceLeDiff, reduceCtorEq, tt]
      refine acall_ret pPB ?_
      simp -implicitDefEqProofs only [ev, ↓reduceIte, Nat.reduceAdd, Nat.reduceEqDiff, Nat.reduceSub, Nat.reduceBEq, Nat.reduceLeDiff, reduceCtorEq, tt2]
      refine ⟨by omega, ?_⟩
      have c5 : (((out ++ ⟨#[92, specAt p]⟩ : ByteArray).size : Int) == IntKind.i64.wrap ((out.size : Int) + 2)) = true := by
        rw [wrap64 (by omega) (by omega), ByteArray.size_append, z2, beq_iff_eq]; omega
      simp -implicitDefEqProofs only [ev, ↓reduceIte, Nat.reduceAdd, Nat.reduceEqDiff, Nat.reduceSub, Nat.reduceBEq, Nat.reduceLeDiff, reduceCtorEq, c5]
      refine acall_ret pSA ?_
      simp -implicitDefEqProofs only [ev, ↓reduceIte, Nat.reduceAdd, Nat.reduceEqDiff, Nat.reduceSub, Nat.reduceBEq, Nat.reduceLeDiff, reduceCtorEq, c2, c3]
      refine acall_ret pSB ?_
      simp -implicitDefEqProofs only [ev, ↓reduceIte, Nat.reduceAdd, Nat.reduceEqDiff, Nat.reduceSub, Nat.reduceBEq, Nat.reduceLeDiff, reduceCtorEq, c4 (by omega)]
      refine acall_ret pGB ?_
      simp -implicitDefEqProofs only [ev, ↓reduceIte, Nat.reduceAdd, Nat.reduceEqDiff, Nat.reduceSub, Nat.reduceBEq, Nat.reduceLeDiff, reduceCtorEq, hz0]
      exact fin_same (.one (by simp)) ⟨rfl, rfl⟩
    · have c1 : ((N : Int) == 1) = false := by simp; omega
      have c2 : (SA == IntKind.i64.wrap ((N : Int) + 1)) = true := by
        rw [wrap64 (by omega) (by omega), ← hSA, if_neg (by omega), beq_iff_eq]; omega
      have c3 : decide ((N : Int) < 1) = false := by simp; omega
      simp -implicitDefEqProofs only [ev, ↓reduceIte, Nat.reduceAdd, Nat.reduceEqDiff, Nat.reduceSub, Nat.reduceBEq, Nat.reduceLeDiff, reduceCtorEq, c1]
      refine acall_ret pPA ?_
      have tt : (out.toList == out.toList) = true := beq_self_eq_true _
      have tt2 : ((out ++ ⟨#[92, specAt p]⟩).toList == (out ++ ⟨#[92, specAt p]⟩).toList) = true := beq_self_eq_true _
      simp -implicitDefEqProofs only [ev, ↓reduceIte, Nat.reduceAdd, Nat.reduceEqDiff, Nat.reduceSub, Nat.reduceBEq, Nat.reduceLeDiff, reduceCtorEq, tt]
      refine acall_ret pPB ?_
      simp -implicitDefEqProofs only [ev, ↓reduceIte, Nat.reduceAdd, Nat.reduceEqDiff, Nat.reduceSub, Nat.reduceBEq, Nat.reduceLeDiff, reduceCtorEq, tt2]
      refine ⟨by omega, ?_⟩
      have c5 : (((out ++ ⟨#[92, specAt p]⟩ : ByteArray).size : Int) == IntKind.i64.wrap ((out.size : Int) + 2)) = true := by
        rw [wrap64 (by omega) (by omega), ByteArray.size_append, z2, beq_iff_eq]; omega
      simp -implicitDefEqProofs only [ev, ↓reduceIte, Nat.reduceAdd, Nat.reduceEqDiff, Nat.reduceSub, Nat.reduceBEq, Nat.reduceLeDiff, reduceCtorEq, c5]
      refine acall_ret pSA ?_
      simp -implicitDefEqProofs only [ev, ↓reduceIte, Nat.reduceAdd, Nat.reduceEqDiff, Nat.reduceSub, Nat.reduceBEq, Nat.reduceLeDiff, reduceCtorEq, c2, c3]
      refine acall_ret pSB ?_
      simp -implicitDefEqProofs only [ev, ↓reduceIte, Nat.reduceAdd, Nat.reduceEqDiff, Nat.reduceSub, Nat.reduceBEq, Nat.reduceLeDiff, reduceCtorEq, c4 (by omega)]
      refine acall_ret pGB ?_
      simp -implicitDefEqProofs only [ev, ↓reduceIte, Nat.reduceAdd, Nat.reduceEqDiff, Nat.reduceSub, Nat.reduceBEq, Nat.reduceLeDiff, reduceCtorEq, hz0]
      exact fin_same (.one (by simp)) ⟨rfl, rfl⟩
end Go.Av

