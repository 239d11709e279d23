/-
  The chapter's examples, pieces of patterns and two laws; no condition.
-/
import Derived.Test.YtoomnhcglmnajaaGreatDoorAvThree
import Derived.Test.YtoomnhcglmnajaaGreatDoorAvCode
import Derived.Test.YtoomnhcglmnajaaGreatDoorAvPlain
set_option linter.unusedVariables false
set_option linter.unusedSimpArgs false
namespace Go.Av
open Go.RowKit Go.Proofs.Tryz

def exA : ByteArray := { data := #[40, 97, 41, 98, 42, 63, 124, 91, 97, 45, 99, 93, 123, 50, 44, 125] }
def exB : ByteArray := { data := #[97, 41] }
def exC : ByteArray := { data := #[97, 42, 42] }
def exD : ByteArray := { data := #[40, 41, 40, 41, 40, 41, 40, 41, 40, 41, 40, 41, 40, 41, 40, 41, 40, 41] }
def exE : ByteArray := { data := #[40, 63, 58, 97, 41, 98] }
def exF : ByteArray := { data := #[97, 98] }
def exAN : Nd := .mk 7 [] 0 0 false 0 [.mk 6 [] 0 0 false 0 [groupN 1 (oneN [⟨97, 97⟩]), repN 0 (-1) true (oneN [⟨98, 98⟩])], repN 2 (-1) false (oneN [⟨97, 99⟩])]
def exEN : Nd := .mk 6 [] 0 0 false 0 [oneN [⟨97, 97⟩], oneN [⟨98, 98⟩]]
theorem exA_ok : parse3 exA = (exAN, 16, 0) := by kernel_rfl
theorem exB_ok : parse3 exB = (emptyN, 1, 2) := by kernel_rfl
theorem exC_ok : parse3 exC = (emptyN, 2, 2) := by kernel_rfl
theorem exD_ok : parse3 exD = (emptyN, 16, 3) := by kernel_rfl
theorem exE_ok : parse3 exE = (exEN, 6, 0) := by kernel_rfl
theorem exA_put : putB exAN = exA := by kernel_rfl
theorem exE_put : putB exEN = exF := by kernel_rfl

theorem exA_fine : Ok exAN := by
  have c1 : ClsOk [⟨97, 97⟩] := by have := (CI.single (nice_small (by omega : (0 : Int) ≤ 97) (by omega))); rw [ofL_single (by decide)] at this; exact this.ok (by decide) (by decide)
  have c2 : ClsOk [⟨98, 98⟩] := by have := (CI.single (nice_small (by omega : (0 : Int) ≤ 98) (by omega))); rw [ofL_single (by decide)] at this; exact this.ok (by decide) (by decide)
  have c3 : ClsOk [⟨97, 99⟩] := ⟨by simp, by simp, ⟨by simp, by simp⟩, by decide, by decide, by decide⟩
  refine .alt _ (by simp) ?_ ?_
  · intro y hy
    simp at hy
    rcases hy with rfl | rfl
    · refine .cat _ (by simp) ?_ ?_
      · intro y hy
        simp at hy
        rcases hy with rfl | rfl
        · exact .group _ _ (.one _ c1)
        · exact .rep _ _ _ _ (by decide) (by decide) (.inl rfl) (.one _ c2)
      · intro y hy
        simp at hy
        rcases hy with rfl | rfl <;> decide
    · exact .rep _ _ _ _ (by decide) (by decide) (.inl rfl) (.one _ c3)
  · intro y hy
    simp at hy
    rcases hy with rfl | rfl <;> decide
theorem exE_fine : Ok exEN := by
  have c1 : ClsOk [⟨97, 97⟩] := by have := (CI.single (nice_small (by omega : (0 : Int) ≤ 97) (by omega))); rw [ofL_single (by decide)] at this; exact this.ok (by decide) (by decide)
  have c2 : ClsOk [⟨98, 98⟩] := by have := (CI.single (nice_small (by omega : (0 : Int) ≤ 98) (by omega))); rw [ofL_single (by decide)] at this; exact this.ok (by decide) (by decide)
  refine .cat _ (by simp) ?_ ?_
  · intro y hy
    simp at hy
    rcases hy with rfl | rfl
    · exact .one _ c1
    · exact .one _ c2
  · intro y hy
    simp at hy
    rcases hy with rfl | rfl <;> decide

theorem encN_mk (k : Int) (c : Cls) (a b : Int) (z : Bool) (m : Int) (ks : List Nd) : encN (.mk k c a b z m ks) = .agg [.iv (.sc (.int .i64 k)), .iv (clsIV c), .iv (.sc (.int .i64 a)), .iv (.sc (.int .i64 b)), .iv (.sc (.bool z)), .iv (.sc (.int .i64 m)), .iv (.sl 7 (ndRows ks))] := by
  simp only [encN, Nd.cells, List.map_cons, List.map_nil]
theorem ret_parse {s : ByteArray} {x : Nd} {a c : Int} (h : parse3 s = (x, a, c)) : Ret prog 11 [.one (sct (.string s))] (.tup [encN x, .one (sct (.int .i64 a)), .one (sct (.int .i64 c))]) := by
  have := f11_ok s; rw [h] at this; exact this

theorem f9_ok : Ret prog 9 [] (.one (sct (.bool true))) := by
  have pA := ret_parse exA_ok
  have pB := ret_parse exB_ok
  have pC := ret_parse exC_ok
  have pD := ret_parse exD_ok
  have pE := ret_parse exE_ok
  have hA := f13_ok exAN (ok_put exA_fine) (by decide)
  have hE := f13_ok exEN (ok_put exE_fine) (by decide)
  have h22 := f22_ok exAN
  have h18 := f18_ok exAN
  have h16 := f16_ok exAN exAN
  have h20 := f20_ok exAN (by decide)
  rw [exA_put] at hA
  rw [exE_put] at hE
  rw [show exAN.groups = 1 by decide] at h22
  rw [show exAN.right = true by decide] at h18
  rw [show Nd.same exAN exAN = true by decide] at h16
  rw [show ((exAN.size : Nat) : Int) = 8 by decide] at h20
  generalize exAN = x at *
  generalize exEN = y at *
  cases x with
  | mk k c a b z m ks =>
  cases y with
  | mk k' c' a' b' z' m' ks' =>
  simp only [encN_mk, emptyN] at pA pB pC pD pE
  simp only [Nd.cells, List.map_cons, List.map_nil] at hA hE h22 h18 h16 h20
  refine .of r9_ok (by simp) (.one (by simp)) (by simp [r9]) ?_
  simp only [oo, on, og, om, ol, oh, zN, ci, r9, initTm, Nat.reduceAdd]
  simp -implicitDefEqProofs only [ev, ↓reduceIte, Nat.reduceAdd, Nat.reduceEqDiff, Nat.reduceLeDiff, reduceCtorEq]
  refine acall_ret pA ?_
  simp -implicitDefEqProofs only [ev, ↓reduceIte, Nat.reduceAdd, Nat.reduceEqDiff, Nat.reduceLeDiff, reduceCtorEq]
  refine acall_ret pB ?_
  simp -implicitDefEqProofs only [ev, ↓reduceIte, Nat.reduceAdd, Nat.reduceEqDiff, Nat.reduceLeDiff, reduceCtorEq]
  refine acall_ret pC ?_
  simp -implicitDefEqProofs only [ev, ↓reduceIte, Nat.reduceAdd, Nat.reduceEqDiff, Nat.reduceLeDiff, reduceCtorEq]
  refine acall_ret pD ?_
  simp -implicitDefEqProofs only [ev, ↓reduceIte, Nat.reduceAdd, Nat.reduceEqDiff, Nat.reduceLeDiff, reduceCtorEq]
  refine acall_ret pE ?_
  simp -implicitDefEqProofs only [ev, ↓reduceIte, Nat.reduceAdd, Nat.reduceEqDiff, Nat.reduceLeDiff, reduceCtorEq]
  have sA : (exA.toList == (⟨#[40, 97, 41, 98, 42, 63, 124, 91, 97, 45, 99, 93, 123, 50, 44, 125]⟩ : ByteArray).toList) = true := beq_self_eq_true _
  have sF : (exF.toList == (⟨#[97, 98]⟩ : ByteArray).toList) = true := beq_self_eq_true _
  refine acall_ret hA ?_
  simp -implicitDefEqProofs only [ev, ↓reduceIte, Nat.reduceAdd, Nat.reduceEqDiff, Nat.reduceLeDiff, reduceCtorEq, sA]
  refine acall_ret h22 ?_
  simp -implicitDefEqProofs only [ev, ↓reduceIte, Nat.reduceAdd, Nat.reduceEqDiff, Nat.reduceLeDiff, reduceCtorEq]
  refine acall_ret h18 ?_
  simp -implicitDefEqProofs only [ev, ↓reduceIte, Nat.reduceAdd, Nat.reduceEqDiff, Nat.reduceLeDiff, reduceCtorEq]
  refine acall_ret h16 ?_
  simp -implicitDefEqProofs only [ev, ↓reduceIte, Nat.reduceAdd, Nat.reduceEqDiff, Nat.reduceLeDiff, reduceCtorEq]
  refine acall_ret h20 ?_
  simp -implicitDefEqProofs only [ev, ↓reduceIte, Nat.reduceAdd, Nat.reduceEqDiff, Nat.reduceLeDiff, reduceCtorEq]
  refine acall_ret hE ?_
  simp -implicitDefEqProofs only [ev, ↓reduceIte, Nat.reduceAdd, Nat.reduceEqDiff, Nat.reduceLeDiff, reduceCtorEq, sF]
  exact fin_same (.one (by simp)) ⟨rfl, rfl⟩
end Go.Av

namespace Go.Av
open Go.RowKit Go.Proofs.Tryz

/-! ### pieces of patterns -/
def partsB : List ByteArray := [⟨#[97]⟩, ⟨#[98]⟩, ⟨#[99]⟩, ⟨#[46]⟩, ⟨#[124]⟩, ⟨#[42]⟩, ⟨#[43]⟩, ⟨#[63]⟩, ⟨#[40]⟩, ⟨#[41]⟩, ⟨#[40, 63, 58]⟩, ⟨#[123, 50, 125]⟩, ⟨#[123, 49, 44, 51, 125]⟩, ⟨#[123, 50, 44, 125]⟩, ⟨#[94]⟩, ⟨#[36]⟩, ⟨#[92, 98]⟩, ⟨#[92, 66]⟩, ⟨#[91, 97, 45, 99, 93]⟩, ⟨#[91, 94, 97, 93]⟩, ⟨#[92, 100]⟩, ⟨#[92, 119]⟩, ⟨#[92, 46]⟩, ⟨#[195, 169]⟩, ⟨#[40, 97, 124, 98, 41]⟩, ⟨#[40, 97, 42, 41, 42]⟩, ⟨#[40, 97, 98, 41, 43, 63]⟩, ⟨#[97, 63, 63]⟩, ⟨#[91]⟩, ⟨#[93]⟩, ⟨#[123]⟩, ⟨#[92]⟩, ⟨#[255]⟩, ⟨#[91, 226, 130, 172, 45, 226, 130, 175, 93]⟩, ⟨#[123, 51, 44, 50, 125]⟩, ⟨#[92, 113]⟩]
def u8Row (b : Int) : List IV := [.sc (.int .u8 b)]
def kOf (b : Int) : Int := (if b < 210 then b.tmod 28 else b).tmod 36
def partAt (b : Int) : ByteArray := partsB.getD (kOf b).toNat ⟨#[]⟩
def patB (l : List Int) : ByteArray := (l.take 14).foldl (fun s b => s ++ partAt b) ⟨#[]⟩

theorem kOf_range {b : Int} (h : 0 ≤ b) : 0 ≤ kOf b ∧ kOf b < 36 := by
  unfold kOf
  have h1 : 0 ≤ b.tmod 28 := Int.tmod_nonneg _ h
  split
  · exact ⟨Int.tmod_nonneg _ h1, Int.tmod_lt_of_pos _ (by decide)⟩
  · exact ⟨Int.tmod_nonneg _ h, Int.tmod_lt_of_pos _ (by decide)⟩
theorem parts_get : ∀ k : _root_.Fin 36, partsB[k.val]? = some (partsB.getD k ⟨#[]⟩) := by decide
theorem parts_size : ∀ k : _root_.Fin 36, (partsB.getD k ⟨#[]⟩).size ≤ 16 := by decide
theorem part_get {b : Int} (h : 0 ≤ b) : partsB[(kOf b).toNat]? = some (partAt b) := by
  have := kOf_range h
  exact parts_get ⟨(kOf b).toNat, by omega⟩
theorem part_size {b : Int} (h : 0 ≤ b) : (partAt b).size ≤ 16 := by
  have := kOf_range h
  exact parts_size ⟨(kOf b).toNat, by omega⟩

theorem f12_ok (l : List Int) (hl : ∀ b ∈ l, 0 ≤ b) : Ret prog 12 [.one (.iv (.sl 1 (l.map u8Row)))] (.one (sct (.string (patB l)))) := by
  refine .of r12_ok (by simp) (.one (by simp)) (by simp [r12]) ?_
  generalize hR : patB l = R
  simp only [oo, on, og, om, ol, oh, zN, ci, r12, initTm, Nat.reduceAdd]
  simp -implicitDefEqProofs only [ev, ↓reduceIte, Nat.reduceAdd, Nat.reduceEqDiff, Nat.reduceLeDiff, reduceCtorEq, awp_loop]
  refine aloop_mk (σ := Nat × ByteArray) (fun p => [(0, .one (.iv (.sl 1 (l.map u8Row)))), (3, .one (.iv (.sl 1 (partsB.map strRow)))), (4, .one (sct (.string p.2))), (5, .one (sct (.int .i64 (p.1 : Nat))))])
    (fun _ => Hp.nil) (fun p => p.1 ≤ l.length ∧ p.1 ≤ 14 ∧ p.2.size ≤ 16 * p.1 ∧ ((l.take 14).drop p.1).foldl (fun s b => s ++ partAt b) p.2 = R) (fun p => l.length - p.1) (0, ⟨#[]⟩) ⟨by simp, by simp, by simp only; decide, by rw [← hR]; rfl⟩ (wk_none ?_) ?_
  · simp only [wk, ↓reduceIte, Nat.reduceEqDiff, reduceCtorEq, Nat.reduceLT]
    simp [partsB, strRow]
  · rintro ⟨i, out⟩ ⟨hi, hi14, hsz, hF⟩
    simp only at hi hi14 hsz hF
    simp only [oo, on, og, om, ol, oh, zN, ci, r12_l0]
    simp -implicitDefEqProofs only [ev, ↓reduceIte, Nat.reduceAdd, Nat.reduceEqDiff, Nat.reduceLeDiff, reduceCtorEq]
    refine .mk fun hb => ?_
    simp -implicitDefEqProofs only [ev, ↓reduceIte, Nat.reduceAdd, Nat.reduceEqDiff, Nat.reduceLeDiff, reduceCtorEq]
    have endl : ¬ (i < l.length ∧ i < 14) → out = R := by
      intro h
      have : (l.take 14).length ≤ i := by rw [List.length_take]; omega
      rw [List.drop_eq_nil_of_le this] at hF
      exact hF
    refine .mk (fun h => ?_) (fun h => ?_)
    · simp -implicitDefEqProofs only [ev, ↓reduceIte, Nat.reduceAdd, Nat.reduceEqDiff, Nat.reduceLeDiff, reduceCtorEq]
      refine .mk (fun h2 => ?_) (fun h2 => ?_)
      · have hlt : i < l.length := by simpa using h
        have hlt2 : i < 14 := by have := of_decide_eq_true h2; omega
        have hx := List.getElem?_eq_getElem hlt
        have hb0 : 0 ≤ l[i] := hl _ (List.getElem_mem hlt)
        have hd : (l.take 14).drop i = l[i] :: (l.take 14).drop (i + 1) := by
          have hlt' : i < (l.take 14).length := by rw [List.length_take]; omega
          rw [List.drop_eq_getElem_cons hlt', List.getElem_take]
        rw [hd, List.foldl_cons] at hF
        generalize l[i] = b at hx hb0 hF
        obtain ⟨k0, k1⟩ := kOf_range hb0
        have hg : (partsB.map strRow)[(kOf b).toNat]? = some (strRow (partAt b)) := by rw [List.getElem?_map, part_get hb0]; rfl
        have hsp := part_size hb0
        simp -implicitDefEqProofs only [ev, ↓reduceIte, Nat.reduceAdd, Nat.reduceEqDiff, Nat.reduceLeDiff, reduceCtorEq, List.getElem?_map, hx, u8Row, Int.natCast_nonneg]
        refine .mk (fun h3 => ?_) (fun h3 => ?_)
        · have hk : (b.tmod 28).tmod 36 = kOf b := by have : b < 210 := by simpa using h3
                                                      simp [kOf, this]
          simp -implicitDefEqProofs only [ev, ↓reduceIte, Nat.reduceAdd, Nat.reduceEqDiff, Nat.reduceLeDiff, reduceCtorEq, hk, hg, strRow]
          refine ⟨by decide, by decide, k0, by omega, ⟨(i + 1, out ++ partAt b), ⟨by simp only; omega, by simp only; omega, by simp only [ByteArray.size_append]; omega, by simp only; exact hF⟩, by simp only; omega, wk_none ?_⟩⟩
          rw [wrap64 (by omega) (by omega)]
          simp only [wk, ↓reduceIte, Nat.reduceEqDiff, reduceCtorEq, Nat.reduceLT]
          simp
        · have hk : b.tmod 36 = kOf b := by have : ¬ b < 210 := by simpa using h3
                                            simp [kOf, this]
          simp -implicitDefEqProofs only [ev, ↓reduceIte, Nat.reduceAdd, Nat.reduceEqDiff, Nat.reduceLeDiff, reduceCtorEq, hk, hg, strRow]
          refine ⟨by decide, k0, by omega, ⟨(i + 1, out ++ partAt b), ⟨by simp only; omega, by simp only; omega, by simp only [ByteArray.size_append]; omega, by simp only; exact hF⟩, by simp only; omega, wk_none ?_⟩⟩
          rw [wrap64 (by omega) (by omega)]
          simp only [wk, ↓reduceIte, Nat.reduceEqDiff, reduceCtorEq, Nat.reduceLT]
          simp
      · simp -implicitDefEqProofs only [ev, ↓reduceIte, Nat.reduceAdd, Nat.reduceEqDiff, Nat.reduceLeDiff, reduceCtorEq]
        refine fin_same (.one (by simp)) ⟨?_, rfl⟩
        rw [endl (by have := of_decide_eq_false h2; omega)]
    · simp -implicitDefEqProofs only [ev, ↓reduceIte, Nat.reduceAdd, Nat.reduceEqDiff, Nat.reduceLeDiff, reduceCtorEq]
      refine fin_same (.one (by simp)) ⟨?_, rfl⟩
      rw [endl (by have := of_decide_eq_false h; omega)]
end Go.Av

namespace Go.Av
open Go.RowKit Go.Lib

def nB (r : Int) : Bool := r == -1 || ((okR r && (r == 0 || okR (r - 1))) && (okR r && (r == 1114111 || okR (r + 1))))
theorem nB_iff {r : Int} (h : nB r = true) : niceR r := by
  simp only [nB, Bool.or_eq_true, Bool.and_eq_true, beq_iff_eq] at h
  rcases h with h | h
  · exact .inl h
  · exact .inr h
theorem niceR.unit {r : Int} (h : niceR r) : unitOk r := h.elim .inl fun h => .inr h.1.1

def partsI : List (List Int) := [[97], [98], [99], [46], [124], [42], [43], [63], [40], [41], [40, 63, 58], [123, 50, 125], [123, 49, 44, 51, 125], [123, 50, 44, 125], [94], [36], [92, 98], [92, 66], [91, 97, 45, 99, 93], [91, 94, 97, 93], [92, 100], [92, 119], [92, 46], [233], [40, 97, 124, 98, 41], [40, 97, 42, 41, 42], [40, 97, 98, 41, 43, 63], [97, 63, 63], [91], [93], [123], [92], [-1], [91, 8364, 45, 8367, 93], [123, 51, 44, 50, 125], [92, 113]]
theorem parts_txt : ∀ k : _root_.Fin 36, (partsB.getD k ⟨#[]⟩).data.toList = (partsI.getD k []).flatMap unitL ∧ ∀ r ∈ partsI.getD k [], nB r = true := by decide
theorem part_txt {b : Int} (h : 0 ≤ b) : ∃ l, Txt (partAt b) l ∧ ∀ r ∈ l, niceR r := by
  have hk := kOf_range h
  obtain ⟨h1, h2⟩ := parts_txt ⟨(kOf b).toNat, by omega⟩
  exact ⟨_, ⟨fun r hr => (nB_iff (h2 r hr)).unit, h1⟩, fun r hr => nB_iff (h2 r hr)⟩
theorem fold_txt : ∀ (l : List Int) (s : ByteArray) (m : List Int), (∀ b ∈ l, 0 ≤ b) → Txt s m → (∀ r ∈ m, niceR r) → ∃ m', Txt (l.foldl (fun s b => s ++ partAt b) s) m' ∧ ∀ r ∈ m', niceR r
  | [], s, m, _, h, hn => ⟨m, h, hn⟩
  | b :: l, s, m, hb, h, hn => by
    obtain ⟨p, h1, h2⟩ := part_txt (hb b (by simp))
    refine fold_txt l _ _ (fun c hc => hb c (by simp [hc])) (h.append h1) ?_
    intro r hr
    rcases List.mem_append.1 hr with hr | hr
    · exact hn r hr
    · exact h2 r hr
/-- Pieces of a pattern are a text of which the parser tells a normal form. -/
theorem pat_nice (l : List Int) (hl : ∀ b ∈ l, 0 ≤ b) : Nice (charsOf (patB l)) := by
  obtain ⟨m, h1, h2⟩ := fold_txt (l.take 14) ⟨#[]⟩ [] (fun b hb => hl b (List.mem_of_mem_take hb)) .nil (by simp)
  exact h1.nice_char h2

/-! ### right, and groups -/
end Go.Av

namespace Go.Av
open Go.RowKit Go.Proofs.Tryz

end Go.Av

namespace Go.Av
open Go.RowKit Go.Proofs.Tryz

end Go.Av

