/-
  The chapter's examples, pieces of patterns and two laws; no condition.
-/
import Derived.Test.YtoomnhcglmnajaaGreatDoorAvThree
import Derived.Test.YtoomnhcglmnajaaGreatDoorAvCode
import Derived.Test.YtoomnhcglmnajaaGreatDoorAvPlain
set_option linter.unusedVariables false
set_option linter.unusedSimpArgs false
namespace Go.Av
open Go.RowKit Go.Proofs.Tryz

def exA : ByteArray := { data := #[40, 97, 41, 98, 42, 63, 124, 91, 97, 45, 99, 93, 123, 50, 44, 125] }
def exB : ByteArray := { data := #[97, 41] }
def exC : ByteArray := { data := #[97, 42, 42] }
def exD : ByteArray := { data := #[40, 41, 40, 41, 40, 41, 40, 41, 40, 41, 40, 41, 40, 41, 40, 41, 40, 41] }
def exE : ByteArray := { data := #[40, 63, 58, 97, 41, 98] }
def exF : ByteArray := { data := #[97, 98] }
def exAN : Nd := .mk 7 [] 0 0 false 0 [.mk 6 [] 0 0 false 0 [groupN 1 (oneN [⟨97, 97⟩]), repN 0 (-1) true (oneN [⟨98, 98⟩])], repN 2 (-1) false (oneN [⟨97, 99⟩])]
def exEN : Nd := .mk 6 [] 0 0 false 0 [oneN [⟨97, 97⟩], oneN [⟨98, 98⟩]]
theorem exA_ok : parse3 exA = (exAN, 16, 0) := by kernel_rfl
theorem exB_ok : parse3 exB = (emptyN, 1, 2) := by kernel_rfl
theorem exC_ok : parse3 exC = (emptyN, 2, 2) := by kernel_rfl
theorem exD_ok : parse3 exD = (emptyN, 16, 3) := by kernel_rfl
theorem exE_ok : parse3 exE = (exEN, 6, 0) := by kernel_rfl
theorem exA_put : putB exAN = exA := by kernel_rfl
theorem exE_put : putB exEN = exF := by kernel_rfl

theorem exA_fine : Ok exAN := by
  have c1 : ClsOk [⟨97, 97⟩] := by have := (CI.single (nice_small (by omega : (0 : Int) ≤ 97) (by omega))); rw [ofL_single (by decide)] at this; exact this.ok (by decide) (by decide)
  have c2 : ClsOk [⟨98, 98⟩] := by have := (CI.single (nice_small (by omega : (0 : Int) ≤ 98) (by omega))); rw [ofL_single (by decide)] at this; exact this.ok (by decide) (by decide)
  have c3 : ClsOk [⟨97, 99⟩] := ⟨by simp, by simp, ⟨by simp, by simp⟩, by decide, by decide, by decide⟩
  refine .alt _ (by simp) ?_ ?_
  · intro y hy
    simp at hy
    rcases hy with rfl | rfl
    · refine .cat _ (by simp) ?_ ?_
      · intro y hy
        simp at hy
        rcases hy with rfl | rfl
        · exact .group _ _ (.one _ c1)
        · exact .rep _ _ _ _ (by decide) (by decide) (.inl rfl) (.one _ c2)
      · intro y hy
        simp at hy
        rcases hy with rfl | rfl <;> decide
    · exact .rep _ _ _ _ (by decide) (by decide) (.inl rfl) (.one _ c3)
  · intro y hy
    simp at hy
    rcases hy with rfl | rfl <;> decide
theorem exE_fine : Ok exEN := by
  have c1 : ClsOk [⟨97, 97⟩] := by have := (CI.single (nice_small (by omega : (0 : Int) ≤ 97) (by omega))); rw [ofL_single (by decide)] at this; exact this.ok (by decide) (by decide)
  have c2 : ClsOk [⟨98, 98⟩] := by have := (CI.single (nice_small (by omega : (0 : Int) ≤ 98) (by omega))); rw [ofL_single (by decide)] at this; exact this.ok (by decide) (by decide)
  refine .cat _ (by simp) ?_ ?_
  · intro y hy
    simp at hy
    rcases hy with rfl | rfl
    · exact .one _ c1
    · exact .one _ c2
  · intro y hy
    simp at hy
    rcases hy with rfl | rfl <;> decide

theorem encN_mk (k : Int) (c : Cls) (a b : Int) (z : Bool) (m : Int) (ks : List Nd) : encN (.mk k c a b z m ks) = .agg [.iv (.sc (.int .i64 k)), .iv (clsIV c), .iv (.sc (.int .i64 a)), .iv (.sc (.int .i64 b)), .iv (.sc (.bool z)), .iv (.sc (.int .i64 m)), .iv (.sl 7 (ndRows ks))] := by
  simp only [encN, Nd.cells, List.map_cons, List.map_nil]
theorem ret_parse {s : ByteArray} {x : Nd} {a c : Int} (h : parse3 s = (x, a, c)) : Ret prog 11 [.one (sct (.string s))] (.tup [encN x, .one (sct (.int .i64 a)), .one (sct (.int .i64 c))]) := by
  have := f11_ok s; rw [h] at this; exact this

theorem f9_ok : Ret prog 9 [] (.one (sct (.bool true))) := by
  have pA := ret_parse exA_ok
  have pB := ret_parse exB_ok
  have pC := ret_parse exC_ok
  have pD := ret_parse exD_ok
  have pE := ret_parse exE_ok
  have hA := f13_ok exAN (ok_put exA_fine) (by decide)
  have hE := f13_ok exEN (ok_put exE_fine) (by decide)
  have h22 := f22_ok exAN
  have h18 := f18_ok exAN
  have h16 := f16_ok exAN exAN
  have h20 := f20_ok exAN (by decide)
  rw [exA_put] at hA
  rw [exE_put] at hE
  rw [show exAN.groups = 1 by decide] at h22
  rw [show exAN.right = true by decide] at h18
  rw [show Nd.same exAN exAN = true by decide] at h16
  rw [show ((exAN.size : Nat) : Int) = 8 by decide] at h20
  generalize exAN = x at *
  generalize exEN = y at *
  cases x with
  | mk k c a b z m ks =>
  cases y with
  | mk k' c' a' b' z' m' ks' =>
  simp only [encN_mk, emptyN] at pA pB pC pD pE
  simp only [Nd.cells, List.map_cons, List.map_nil] at hA hE h22 h18 h16 h20
  refine .of r9_ok (by simp) (.one (by simp)) (by simp [r9]) ?_
  simp only [r9, initTm, Nat.reduceAdd]
  simp -implicitDefEqProofs only [ev, ↓reduceIte, Nat.reduceAdd, Nat.reduceEqDiff, Nat.reduceSub, Nat.reduceBEq, Nat.reduceLeDiff, reduceCtorEq]
  refine acall_ret pA ?_
  simp -implicitDefEqProofs only [ev, ↓reduceIte, Nat.reduceAdd, Nat.reduceEqDiff, Nat.reduceSub, Nat.reduceBEq, Nat.reduceLeDiff, reduceCtorEq]
  refine acall_ret pB ?_
  simp -implicitDefEqProofs only [ev, ↓reduceIte, Nat.reduceAdd, Nat.reduceEqDiff, Nat.reduceSub, Nat.reduceBEq, Nat.reduceLeDiff, reduceCtorEq]
  refine acall_ret pC ?_
  simp -implicitDefEqProofs only [ev, ↓reduceIte, Nat.reduceAdd, Nat.reduceEqDiff, Nat.reduceSub, Nat.reduceBEq, Nat.reduceLeDiff, reduceCtorEq]
  refine acall_ret pD ?_
  simp -implicitDefEqProofs only [ev, ↓reduceIte, Nat.reduceAdd, Nat.reduceEqDiff, Nat.reduceSub, Nat.reduceBEq, Nat.reduceLeDiff, reduceCtorEq]
  refine acall_ret pE ?_
  simp -implicitDefEqProofs only [ev, ↓reduceIte, Nat.reduceAdd, Nat.reduceEqDiff, Nat.reduceSub, Nat.reduceBEq, Nat.reduceLeDiff, reduceCtorEq]
  have sA : (exA.toList == (⟨#[40, 97, 41, 98, 42, 63, 124, 91, 97, 45, 99, 93, 123, 50, 44, 125]⟩ : ByteArray).toList) = true := beq_self_eq_true _
  have sF : (exF.toList == (⟨#[97, 98]⟩ : ByteArray).toList) = true := beq_self_eq_true _
  refine acall_ret hA ?_
  simp -implicitDefEqProofs only [ev, ↓reduceIte, Nat.reduceAdd, Nat.reduceEqDiff, Nat.reduceSub, Nat.reduceBEq, Nat.reduceLeDiff, reduceCtorEq, sA]
  refine acall_ret h22 ?_
  simp -implicitDefEqProofs only [ev, ↓reduceIte, Nat.reduceAdd, Nat.reduceEqDiff, Nat.reduceSub, Nat.reduceBEq, Nat.reduceLeDiff, reduceCtorEq]
  refine acall_ret h18 ?_
  simp -implicitDefEqProofs only [ev, ↓reduceIte, Nat.reduceAdd, Nat.reduceEqDiff, Nat.reduceSub, Nat.reduceBEq, Nat.reduceLeDiff, reduceCtorEq]
  refine acall_ret h16 ?_
  simp -implicitDefEqProofs only [ev, ↓reduceIte, Nat.reduceAdd, Nat.reduceEqDiff, Nat.reduceSub, Nat.reduceBEq, Nat.reduceLeDiff, reduceCtorEq]
  refine acall_ret h20 ?_
  simp -implicitDefEqProofs only [ev, ↓reduceIte, Nat.reduceAdd, Nat.reduceEqDiff, Nat.reduceSub, Nat.reduceBEq, Nat.reduceLeDiff, reduceCtorEq]
  refine acall_ret hE ?_
  simp -implicitDefEqProofs only [ev, ↓reduceIte, Nat.reduceAdd, Nat.reduceEqDiff, Nat.reduceSub, Nat.reduceBEq, Nat.reduceLeDiff, reduceCtorEq, sF]
  exact fin_same (.one (by simp)) ⟨rfl, rfl⟩
end Go.Av

namespace Go.Av
open Go.RowKit Go.Proofs.Tryz

/-! ### pieces of patterns -/
def partsB : List ByteArray := [⟨#[97]⟩, ⟨#[98]⟩, ⟨#[99]⟩, ⟨#[46]⟩, ⟨#[124]⟩, ⟨#[42]⟩, ⟨#[43]⟩, ⟨#[63]⟩, ⟨#[40]⟩, ⟨#[41]⟩, ⟨#[40, 63, 58]⟩, ⟨#[123, 50, 125]⟩, ⟨#[123, 49, 44, 51, 125]⟩, ⟨#[123, 50, 44, 125]⟩, ⟨#[94]⟩, ⟨#[36]⟩, ⟨#[92, 98]⟩, ⟨#[92, 66]⟩, ⟨#[91, 97, 45, 99, 93]⟩, ⟨#[91, 94, 97, 93]⟩, ⟨#[92, 100]⟩, ⟨#[92, 119]⟩, ⟨#[92, 46]⟩, ⟨#[195, 169]⟩, ⟨#[40, 97, 124, 98, 41]⟩, ⟨#[40, 97, 42, 41, 42]⟩, ⟨#[40, 97, 98, 41, 43, 63]⟩, ⟨#[97, 63, 63]⟩, ⟨#[91]⟩, ⟨#[93]⟩, ⟨#[123]⟩, ⟨#[92]⟩, ⟨#[255]⟩, ⟨#[91, 226, 130, 172, 45, 226, 130, 175, 93]⟩, ⟨#[123, 51, 44, 50, 125]⟩, ⟨#[92, 113]⟩]
def u8Row (b : Int) : List IV := [.sc (.int .u8 b)]
def kOf (b : Int) : Int := (if b < 210 then b.tmod 28 else b).tmod 36
def partAt (b : Int) : ByteArray := partsB.getD (kOf b).toNat ⟨#[]⟩
def patB (l : List Int) : ByteArray := (l.take 14).foldl (fun s b => s ++ partAt b) ⟨#[]⟩

theorem kOf_range {b : Int} (h : 0 ≤ b) : 0 ≤ kOf b ∧ kOf b < 36 := by
  unfold kOf
  have h1 : 0 ≤ b.tmod 28 := Int.tmod_nonneg _ h
  split
  · exact ⟨Int.tmod_nonneg _ h1, Int.tmod_lt_of_pos _ (by decide)⟩
  · exact ⟨Int.tmod_nonneg _ h, Int.tmod_lt_of_pos _ (by decide)⟩
theorem parts_get : ∀ k : _root_.Fin 36, partsB[k.val]? = some (partsB.getD k ⟨#[]⟩) := by decide
theorem parts_size : ∀ k : _root_.Fin 36, (partsB.getD k ⟨#[]⟩).size ≤ 16 := by decide
theorem part_get {b : Int} (h : 0 ≤ b) : partsB[(kOf b).toNat]? = some (partAt b) := by
  have := kOf_range h
  exact parts_get ⟨(kOf b).toNat, by omega⟩
theorem part_size {b : Int} (h : 0 ≤ b) : (partAt b).size ≤ 16 := by
  have := kOf_range h
  exact parts_size ⟨(kOf b).toNat, by omega⟩

theorem f12_ok (l : List Int) (hl : ∀ b ∈ l, 0 ≤ b) : Ret prog 12 [.one (.iv (.sl 1 (l.map u8Row)))] (.one (sct (.string (patB l)))) := by
  refine .of r12_ok (by simp) (.one (by simp)) (by simp [r12]) ?_
  generalize hR : patB l = R
  simp only [r12, initTm, Nat.reduceAdd]
  simp -implicitDefEqProofs only [ev, ↓reduceIte, Nat.reduceAdd, Nat.reduceEqDiff, Nat.reduceSub, Nat.reduceBEq, Nat.reduceLeDiff, reduceCtorEq, awp_loop]
  refine aloop_mk (σ := Nat × ByteArray) (fun p => [(0, .one (.iv (.sl 1 (l.map u8Row)))), (3, .one (.iv (.sl 1 (partsB.map strRow)))), (4, .one (sct (.string p.2))), (5, .one (sct (.int .i64 (p.1 : Nat))))])
    (fun _ => Hp.nil) (fun p => p.1 ≤ l.length ∧ p.1 ≤ 14 ∧ p.2.size ≤ 16 * p.1 ∧ ((l.take 14).drop p.1).foldl (fun s b => s ++ partAt b) p.2 = R) (fun p => l.length - p.1) (0, ⟨#[]⟩) ⟨by simp, by simp, by simp only; decide, by rw [← hR]; rfl⟩ (wk_none ?_) ?_
  · simp only [wk, ↓reduceIte, Nat.reduceEqDiff, reduceCtorEq, Nat.reduceLT]
    simp [partsB, strRow]
  · rintro ⟨i, out⟩ ⟨hi, hi14, hsz, hF⟩
    simp only at hi hi14 hsz hF
    simp only [r12_l0]
    simp -implicitDefEqProofs only [ev, ↓reduceIte, Nat.reduceAdd, Nat.reduceEqDiff, Nat.reduceSub, Nat.reduceBEq, Nat.reduceLeDiff, reduceCtorEq]
    refine .mk fun hb => ?_
    simp -implicitDefEqProofs only [ev, ↓reduceIte, Nat.reduceAdd, Nat.reduceEqDiff, Nat.reduceSub, Nat.reduceBEq, Nat.reduceLeDiff, reduceCtorEq]
    have endl : ¬ (i < l.length ∧ i < 14) → out = R := by
      intro h
      have : (l.take 14).length ≤ i := by rw [List.length_take]; omega
      rw [List.drop_eq_nil_of_le this] at hF
      exact hF
    refine .mk (fun h => ?_) (fun h => ?_)
    · simp -implicitDefEqProofs only [ev, ↓reduceIte, Nat.reduceAdd, Nat.reduceEqDiff, Nat.reduceSub, Nat.reduceBEq, Nat.reduceLeDiff, reduceCtorEq]
      refine .mk (fun h2 => ?_) (fun h2 => ?_)
      · have hlt : i < l.length := by simpa using h
        have hlt2 : i < 14 := by have := of_decide_eq_true h2; omega
        have hx := List.getElem?_eq_getElem hlt
        have hb0 : 0 ≤ l[i] := hl _ (List.getElem_mem hlt)
        have hd : (l.take 14).drop i = l[i] :: (l.take 14).drop (i + 1) := by
          have hlt' : i < (l.take 14).length := by rw [List.length_take]; omega
          rw [List.drop_eq_getElem_cons hlt', List.getElem_take]
        rw [hd, List.foldl_cons] at hF
        generalize l[i] = b at hx hb0 hF
        obtain ⟨k0, k1⟩ := kOf_range hb0
        have hg : (partsB.map strRow)[(kOf b).toNat]? = some (strRow (partAt b)) := by rw [List.getElem?_map, part_get hb0]; rfl
        have hsp := part_size hb0
        simp -implicitDefEqProofs only [ev, ↓reduceIte, Nat.reduceAdd, Nat.reduceEqDiff, Nat.reduceSub, Nat.reduceBEq, Nat.reduceLeDiff, reduceCtorEq, List.getElem?_map, hx, u8Row, Int.natCast_nonneg]
        refine .mk (fun h3 => ?_) (fun h3 => ?_)
        · have hk : (b.tmod 28).tmod 36 = kOf b := by have : b < 210 := by simpa using h3
                                                      simp [kOf, this]
          simp -implicitDefEqProofs only [ev, ↓reduceIte, Nat.reduceAdd, Nat.reduceEqDiff, Nat.reduceSub, Nat.reduceBEq, Nat.reduceLeDiff, reduceCtorEq, hk, hg, strRow]
          refine ⟨by decide, by decide, k0, by omega, ⟨(i + 1, out ++ partAt b), ⟨by simp only; omega, by simp only; omega, by simp only [ByteArray.size_append]; omega, by simp only; exact hF⟩, by simp only; omega, wk_none ?_⟩⟩
          rw [wrap64 (by omega) (by omega)]
          simp only [wk, ↓reduceIte, Nat.reduceEqDiff, reduceCtorEq, Nat.reduceLT]
          simp
        · have hk : b.tmod 36 = kOf b := by have : ¬ b < 210 := by simpa using h3
                                            simp [kOf, this]
          simp -implicitDefEqProofs only [ev, ↓reduceIte, Nat.reduceAdd, Nat.reduceEqDiff, Nat.reduceSub, Nat.reduceBEq, Nat.reduceLeDiff, reduceCtorEq, hk, hg, strRow]
          refine ⟨by decide, k0, by omega, ⟨(i + 1, out ++ partAt b), ⟨by simp only; omega, by simp only; omega, by simp only [ByteArray.size_append]; omega, by simp only; exact hF⟩, by simp only; omega, wk_none ?_⟩⟩
          rw [wrap64 (by omega) (by omega)]
          simp only [wk, ↓reduceIte, Nat.reduceEqDiff, reduceCtorEq, Nat.reduceLT]
          simp
      · simp -implicitDefEqProofs only [ev, ↓reduceIte, Nat.reduceAdd, Nat.reduceEqDiff, Nat.reduceSub, Nat.reduceBEq, Nat.reduceLeDiff, reduceCtorEq]
        refine fin_same (.one (by simp)) ⟨?_, rfl⟩
        rw [endl (by have := of_decide_eq_false h2; omega)]
    · simp -implicitDefEqProofs only [ev, ↓reduceIte, Nat.reduceAdd, Nat.reduceEqDiff, Nat.reduceSub, Nat.reduceBEq, Nat.reduceLeDiff, reduceCtorEq]
      refine fin_same (.one (by simp)) ⟨?_, rfl⟩
      rw [endl (by have := of_decide_eq_false h; omega)]
end Go.Av

namespace Go.Av
open Go.RowKit Go.Lib

def nB (r : Int) : Bool := r == -1 || ((okR r && (r == 0 || okR (r - 1))) && (okR r && (r == 1114111 || okR (r + 1))))
theorem nB_iff {r : Int} (h : nB r = true) : niceR r := by
  simp only [nB, Bool.or_eq_true, Bool.and_eq_true, beq_iff_eq] at h
  rcases h with h | h
  · exact .inl h
  · exact .inr h
theorem niceR.unit {r : Int} (h : niceR r) : unitOk r := h.elim .inl fun h => .inr h.1.1

def partsI : List (List Int) := [[97], [98], [99], [46], [124], [42], [43], [63], [40], [41], [40, 63, 58], [123, 50, 125], [123, 49, 44, 51, 125], [123, 50, 44, 125], [94], [36], [92, 98], [92, 66], [91, 97, 45, 99, 93], [91, 94, 97, 93], [92, 100], [92, 119], [92, 46], [233], [40, 97, 124, 98, 41], [40, 97, 42, 41, 42], [40, 97, 98, 41, 43, 63], [97, 63, 63], [91], [93], [123], [92], [-1], [91, 8364, 45, 8367, 93], [123, 51, 44, 50, 125], [92, 113]]
theorem parts_txt : ∀ k : _root_.Fin 36, (partsB.getD k ⟨#[]⟩).data.toList = (partsI.getD k []).flatMap unitL ∧ ∀ r ∈ partsI.getD k [], nB r = true := by decide
theorem part_txt {b : Int} (h : 0 ≤ b) : ∃ l, Txt (partAt b) l ∧ ∀ r ∈ l, niceR r := by
  have hk := kOf_range h
  obtain ⟨h1, h2⟩ := parts_txt ⟨(kOf b).toNat, by omega⟩
  exact ⟨_, ⟨fun r hr => (nB_iff (h2 r hr)).unit, h1⟩, fun r hr => nB_iff (h2 r hr)⟩
theorem fold_txt : ∀ (l : List Int) (s : ByteArray) (m : List Int), (∀ b ∈ l, 0 ≤ b) → Txt s m → (∀ r ∈ m, niceR r) → ∃ m', Txt (l.foldl (fun s b => s ++ partAt b) s) m' ∧ ∀ r ∈ m', niceR r
  | [], s, m, _, h, hn => ⟨m, h, hn⟩
  | b :: l, s, m, hb, h, hn => by
    obtain ⟨p, h1, h2⟩ := part_txt (hb b (by simp))
    refine fold_txt l _ _ (fun c hc => hb c (by simp [hc])) (h.append h1) ?_
    intro r hr
    rcases List.mem_append.1 hr with hr | hr
    · exact hn r hr
    · exact h2 r hr
/-- Pieces of a pattern are a text of which the parser tells a normal form. -/
theorem pat_nice (l : List Int) (hl : ∀ b ∈ l, 0 ≤ b) : Nice (charsOf (patB l)) := by
  obtain ⟨m, h1, h2⟩ := fold_txt (l.take 14) ⟨#[]⟩ [] (fun b hb => hl b (List.mem_of_mem_take hb)) .nil (by simp)
  exact h1.nice_char h2

/-! ### right, and groups -/
theorem nums_mem : ∀ {l : List Nd} {g g' : Int}, nums l g = some g' → ∀ y ∈ l, ∃ g1 g2, num y g1 = some g2 ∧ g ≤ g1 ∧ g2 ≤ g'
  | x :: r, g, g', h, y, hy => by
    obtain ⟨g1, h1, h2⟩ := nums_cons h
    have a := num_le _ _ _ h1
    have b := nums_le _ _ _ h2
    rcases List.mem_cons.1 hy with rfl | hy
    · exact ⟨g, g1, h1, Int.le_refl _, b⟩
    · obtain ⟨g3, g4, h3, h4, h5⟩ := nums_mem h2 y hy
      exact ⟨g3, g4, h3, by omega, h5⟩
theorem ndRight_all : ∀ {l : List Nd}, (∀ y ∈ l, y.right = true) → ndRight l = true
  | [], _ => rfl
  | x :: r, h => by
    simp only [ndRight, h x (by simp), ndRight_all (l := r) fun y hy => h y (by simp [hy]), Bool.and_self]
theorem ndGroups_le {B : Int} : ∀ {l : List Nd} {a : Int}, a ≤ B → (∀ y ∈ l, y.groups ≤ B) → ndGroups a l ≤ B
  | [], a, ha, _ => ha
  | x :: r, a, ha, h => by
    simp only [ndGroups]
    refine ndGroups_le ?_ fun y hy => h y (by simp [hy])
    have := h x (by simp)
    simp only [imax]; split <;> omega

theorem clsRight_ok {c : Cls} (h : ClsOk c) : clsRight c = true := by
  have hl := h.len
  simp only [clsRight, Bool.and_eq_true, decide_eq_true_eq, List.all_eq_true, List.mem_range]
  refine ⟨fun i hi => ?_, by omega⟩
  have hx := List.getElem?_eq_getElem hi
  have hm := h.may _ (List.getElem_mem hi)
  simp only [gapOK, hx, hm, Bool.true_and, Bool.or_eq_true, beq_iff_eq]
  rcases Nat.eq_zero_or_pos i with h0 | h0
  · exact .inl h0
  · right
    have hi1 : i - 1 < c.length := by omega
    rw [List.getElem?_eq_getElem hi1]
    have := List.pairwise_iff_getElem.1 h.norm.2 (i - 1) i hi1 hi (by omega)
    simp; omega
theorem clsRight_nil : clsRight [] = true := rfl

theorem ok_right {x : Nd} (h : Ok x) : ∀ g g', num x g = some g' → 0 ≤ g → g' ≤ 8 → x.right = true ∧ x.groups ≤ g' := by
  induction h with
  | empty => intro g g' hn h0 h8; have := num_le _ _ _ hn; exact ⟨by decide, by simp [emptyN, Nd.groups, ndGroups, imax]; omega⟩
  | one c h =>
    intro g g' hn h0 h8
    have hle := num_le _ _ _ hn
    have hc := clsRight_ok h
    have hp : 0 < c.length := List.length_pos_iff.2 h.ne
    refine ⟨?_, by simp [oneN, Nd.groups, ndGroups, imax]; omega⟩
    simp [oneN, Nd.right, ndRight, rightHere, hc]
    omega
  | plain k h =>
    intro g g' hn h0 h8
    have hle := num_le _ _ _ hn
    refine ⟨?_, by simp [plainN, Nd.groups, ndGroups, imax]; omega⟩
    rcases h with rfl | rfl | rfl | rfl <;> decide
  | cat ks hl h hk ih =>
    intro g g' hn h0 h8
    have hle := num_le _ _ _ hn
    simp only [num] at hn
    rw [if_neg (by decide)] at hn
    have key := fun y hy => nums_mem hn y hy
    have hr : ∀ y ∈ ks, y.right = true ∧ y.groups ≤ g' := by
      intro y hy
      obtain ⟨g1, g2, h1, h2, h3⟩ := key y hy
      obtain ⟨a, b⟩ := ih y hy g1 g2 h1 (by omega) (by omega)
      exact ⟨a, by omega⟩
    refine ⟨?_, ?_⟩
    · simp [Nd.right, ndRight_all fun y hy => (hr y hy).1, rightHere, clsRight_nil]; omega
    · simp only [Nd.groups]
      exact ndGroups_le (by simp [imax]; omega) fun y hy => (hr y hy).2
  | alt ks hl h hk ih =>
    intro g g' hn h0 h8
    have hle := num_le _ _ _ hn
    simp only [num] at hn
    rw [if_neg (by decide)] at hn
    have key := fun y hy => nums_mem hn y hy
    have hr : ∀ y ∈ ks, y.right = true ∧ y.groups ≤ g' := by
      intro y hy
      obtain ⟨g1, g2, h1, h2, h3⟩ := key y hy
      obtain ⟨a, b⟩ := ih y hy g1 g2 h1 (by omega) (by omega)
      exact ⟨a, by omega⟩
    refine ⟨?_, ?_⟩
    · simp [Nd.right, ndRight_all fun y hy => (hr y hy).1, rightHere, clsRight_nil]; omega
    · simp only [Nd.groups]
      exact ndGroups_le (by simp [imax]; omega) fun y hy => (hr y hy).2
  | rep a b z x ha hb hc h ih =>
    intro g g' hn h0 h8
    have hle := num_le _ _ _ hn
    simp only [repN, num] at hn
    rw [if_neg (by decide), nums_one] at hn
    obtain ⟨h1, h2⟩ := ih g g' hn h0 h8
    refine ⟨?_, ?_⟩
    · simp [repN, Nd.right, ndRight, h1, rightHere, clsRight_nil, ha, hb]
      rcases hc with rfl | hc
      · simp
      · right; exact ⟨hc.1, hc.2⟩
    · simp only [repN, Nd.groups]
      exact ndGroups_le (by simp [imax]; omega) (by simp [h2])
  | group m x h ih =>
    intro g g' hn h0 h8
    have hle := num_le _ _ _ hn
    simp only [groupN, num, if_true] at hn
    split at hn
    · rename_i hm
      have hle2 := nums_le _ _ _ hn
      rw [nums_one] at hn
      obtain ⟨h1, h2⟩ := ih (g + 1) g' hn (by omega) h8
      refine ⟨?_, ?_⟩
      · simp [groupN, Nd.right, ndRight, h1, rightHere, clsRight_nil]; omega
      · simp only [groupN, Nd.groups]
        exact ndGroups_le (by simp only [imax]; split <;> omega) (by simp [h2])
    · cases hn
end Go.Av

namespace Go.Av
open Go.RowKit Go.Proofs.Tryz

mutual
theorem same_self : ∀ x : Nd, Nd.same x x = true
  | .mk k c a b z m ks => by simp only [Nd.same, beq_self_eq_true, Bool.true_and, sames_self ks]
theorem sames_self : ∀ l : List Nd, ndSames l l = true
  | [] => rfl
  | x :: r => by simp only [ndSames, same_self x, sames_self r, Bool.and_self]
end
mutual
theorem same_eq : ∀ {x y : Nd}, Nd.same x y = true → x = y
  | .mk k c a b z m ks, .mk k' c' a' b' z' m' ks', h => by
    simp only [Nd.same, Bool.and_eq_true, beq_iff_eq] at h
    obtain ⟨rfl, rfl, rfl, rfl, rfl, rfl, h7⟩ := h
    rw [sames_eq h7]
theorem sames_eq : ∀ {l l' : List Nd}, ndSames l l' = true → l = l'
  | [], [], _ => rfl
  | [], y :: s, h => by simp [ndSames] at h
  | x :: r, [], h => by simp [ndSames] at h
  | x :: r, y :: s, h => by
    simp only [ndSames, Bool.and_eq_true] at h
    rw [same_eq h.1, sames_eq h.2]
end
theorem same_iff (x y : Nd) : Nd.same x y = true ↔ x = y := ⟨same_eq, fun h => h ▸ same_self x⟩
theorem u8_low (l : List Int) : LLow 0 (.one (.iv (.sl 1 (l.map u8Row)))) := by simp

theorem f4_ok (l : List Int) (hl : ∀ b ∈ l, 0 ≤ b) : Ret prog 4 [.one (.iv (.sl 1 (l.map u8Row)))] (.one (sct (.bool true))) := by
  have hv := pat_nice l hl
  have h12 := f12_ok l hl
  generalize hs : patB l = s at hv h12
  refine .of r4_ok (by simp) (.one (by simp)) (by simp [r4]) ?_
  simp only [r4, initTm, Nat.reduceAdd]
  simp -implicitDefEqProofs only [ev, ↓reduceIte, Nat.reduceAdd, Nat.reduceEqDiff, Nat.reduceSub, Nat.reduceBEq, Nat.reduceLeDiff, reduceCtorEq]
  refine acall_ret f9_ok ?_
  simp -implicitDefEqProofs only [ev, ↓reduceIte, Nat.reduceAdd, Nat.reduceEqDiff, Nat.reduceSub, Nat.reduceBEq, Nat.reduceLeDiff, reduceCtorEq]
  refine acall_ret h12 ?_
  simp -implicitDefEqProofs only [ev, ↓reduceIte, Nat.reduceAdd, Nat.reduceEqDiff, Nat.reduceSub, Nat.reduceBEq, Nat.reduceLeDiff, reduceCtorEq]
  cases hp : parseF s with
  | error ca =>
    obtain ⟨c, a⟩ := ca
    obtain ⟨hc, ha0, ha1⟩ := parse_err hp
    have h3 : parse3 s = (emptyN, a, c) := by simp [parse3, hp]
    have pA := ret_parse h3
    simp only [emptyN, encN_mk] at pA
    refine acall_ret pA ?_
    have hc0 : (c != 0) = true := by simp; omega
    have hA : decide (a ≥ 0) = true := by simp [ha0]
    have hM : (if 0 > (s.size : Int) then 0 else (s.size : Int)) = s.size := if_neg (by omega)
    have hB : decide (a ≤ (s.size : Int)) = true := by simp; omega
    simp -implicitDefEqProofs only [ev, ↓reduceIte, Nat.reduceAdd, Nat.reduceEqDiff, Nat.reduceSub, Nat.reduceBEq, Nat.reduceLeDiff, reduceCtorEq, hc0, hA, hM, hB]
    refine .mk fun _ => ?_
    simp -implicitDefEqProofs only [ev, ↓reduceIte, Nat.reduceAdd, Nat.reduceEqDiff, Nat.reduceSub, Nat.reduceBEq, Nat.reduceLeDiff, reduceCtorEq]
    exact fin_same (.one (by simp)) ⟨rfl, rfl⟩
  | ok x =>
    obtain ⟨hok, ⟨g, hn, hg0, hg8⟩, hsz, hs200⟩ := parse_ok hv hp
    have h3 : parse3 s = (x, (s.size : Int), 0) := by simp [parse3, hp]
    have pA := ret_parse h3
    have h13 := f13_ok x (ok_put hok) (by omega)
    obtain ⟨hri, hgr⟩ := ok_right hok 0 g hn (Int.le_refl _) hg8
    have h18 := f18_ok x
    have h22 := f22_ok x
    have h16 := f16_ok x x
    rw [hri] at h18
    rw [same_self] at h16
    have hback : (putB x).size ≤ 200 → parse3 (putB x) = (x, ((putB x).size : Int), 0) := fun h => by
      simp [parse3, parse_put hok hn hg8 (txt_put hok).chars h]
    generalize putB x = t at h13 hback
    have hx : encN x = .agg (x.cells.map .iv) := rfl
    generalize hgv : x.groups = gv at h22 hgr
    cases x with
    | mk k c a b z m ks =>
    simp only [encN_mk] at pA
    simp only [Nd.cells, List.map_cons, List.map_nil] at h13 h18 h22 h16
    have hz : ((0 : Int) != 0) = false := rfl
    refine acall_ret pA ?_
    simp -implicitDefEqProofs only [ev, ↓reduceIte, Nat.reduceAdd, Nat.reduceEqDiff, Nat.reduceSub, Nat.reduceBEq, Nat.reduceLeDiff, reduceCtorEq, hz]
    refine acall_ret h13 ?_
    simp -implicitDefEqProofs only [ev, ↓reduceIte, Nat.reduceAdd, Nat.reduceEqDiff, Nat.reduceSub, Nat.reduceBEq, Nat.reduceLeDiff, reduceCtorEq]
    cases ht : decide ((t.size : Int) > 200) with
    | true =>
      simp -implicitDefEqProofs only [ev, ↓reduceIte, Nat.reduceAdd, Nat.reduceEqDiff, Nat.reduceSub, Nat.reduceBEq, Nat.reduceLeDiff, reduceCtorEq, ht]
      refine acall_ret h18 ?_
      simp -implicitDefEqProofs only [ev, ↓reduceIte, Nat.reduceAdd, Nat.reduceEqDiff, Nat.reduceSub, Nat.reduceBEq, Nat.reduceLeDiff, reduceCtorEq]
      exact fin_same (.one (by simp)) ⟨rfl, rfl⟩
    | false =>
      have ht' : t.size ≤ 200 := by have := of_decide_eq_false ht; omega
      have pB := ret_parse (hback ht')
      simp only [encN_mk] at pB
      simp -implicitDefEqProofs only [ev, ↓reduceIte, Nat.reduceAdd, Nat.reduceEqDiff, Nat.reduceSub, Nat.reduceBEq, Nat.reduceLeDiff, reduceCtorEq, ht]
      refine acall_ret pB ?_
      have tt : (t.toList == t.toList) = true := beq_self_eq_true _
      have gle : decide (gv ≤ 8) = true := by simp; omega
      simp -implicitDefEqProofs only [ev, ↓reduceIte, Nat.reduceAdd, Nat.reduceEqDiff, Nat.reduceSub, Nat.reduceBEq, Nat.reduceLeDiff, reduceCtorEq]
      refine acall_ret h16 ?_
      simp -implicitDefEqProofs only [ev, ↓reduceIte, Nat.reduceAdd, Nat.reduceEqDiff, Nat.reduceSub, Nat.reduceBEq, Nat.reduceLeDiff, reduceCtorEq]
      refine acall_ret h13 ?_
      simp -implicitDefEqProofs only [ev, ↓reduceIte, Nat.reduceAdd, Nat.reduceEqDiff, Nat.reduceSub, Nat.reduceBEq, Nat.reduceLeDiff, reduceCtorEq, tt]
      refine acall_ret h18 ?_
      simp -implicitDefEqProofs only [ev, ↓reduceIte, Nat.reduceAdd, Nat.reduceEqDiff, Nat.reduceSub, Nat.reduceBEq, Nat.reduceLeDiff, reduceCtorEq]
      refine acall_ret h22 ?_
      simp -implicitDefEqProofs only [ev, ↓reduceIte, Nat.reduceAdd, Nat.reduceEqDiff, Nat.reduceSub, Nat.reduceBEq, Nat.reduceLeDiff, reduceCtorEq, gle]
      exact fin_same (.one (by simp)) ⟨rfl, rfl⟩
end Go.Av

namespace Go.Av
open Go.RowKit Go.Proofs.Tryz

theorem f8_ok (l1 l2 : List Int) (same : Bool) (hl1 : ∀ b ∈ l1, 0 ≤ b) (hl2 : ∀ b ∈ l2, 0 ≤ b) : Ret prog 8 [.one (.iv (.sl 1 (l1.map u8Row))), .one (.iv (.sl 1 (l2.map u8Row))), .one (sct (.bool same))] (.one (sct (.bool true))) := by
  have hv1 := pat_nice l1 hl1
  have h121 := f12_ok l1 hl1
  refine .of r8_ok (by simp) (.one (by simp)) (by simp [r8]) ?_
  simp only [r8, initTm, Nat.reduceAdd]
  simp -implicitDefEqProofs only [ev, ↓reduceIte, Nat.reduceAdd, Nat.reduceEqDiff, Nat.reduceSub, Nat.reduceBEq, Nat.reduceLeDiff, reduceCtorEq]
  refine acall_ret f9_ok ?_
  cases same with
  | true =>
    have hv2 := hv1
    have h122 := h121
    have hz : ((0 : Int) != 0) = false := rfl
    generalize hsx : patB l1 = s1 at hv1 h121
    generalize hsy : patB l1 = s2 at hv2 h122
    cases hp1 : parseF s1 with
    | error ca =>
      obtain ⟨c, a⟩ := ca
      obtain ⟨hc, ha0, ha1⟩ := parse_err hp1
      have h3 : parse3 s1 = (emptyN, a, c) := by simp [parse3, hp1]
      have pA := ret_parse h3
      have hc0 : (c != 0) = true := by simp; omega
      have pB := f11_ok s2
      generalize (parse3 s2).1 = x2 at pB
      generalize (parse3 s2).2.1 = a2 at pB
      generalize (parse3 s2).2.2 = c2 at pB
      cases x2 with
      | mk k c' a' b z m ks =>
      simp only [emptyN, encN_mk] at pA pB
      simp -implicitDefEqProofs only [ev, ↓reduceIte, Nat.reduceAdd, Nat.reduceEqDiff, Nat.reduceSub, Nat.reduceBEq, Nat.reduceLeDiff, reduceCtorEq]
      refine acall_ret h121 ?_
      simp -implicitDefEqProofs only [ev, ↓reduceIte, Nat.reduceAdd, Nat.reduceEqDiff, Nat.reduceSub, Nat.reduceBEq, Nat.reduceLeDiff, reduceCtorEq]
      refine acall_ret pA ?_
      simp -implicitDefEqProofs only [ev, ↓reduceIte, Nat.reduceAdd, Nat.reduceEqDiff, Nat.reduceSub, Nat.reduceBEq, Nat.reduceLeDiff, reduceCtorEq]
      refine acall_ret h122 ?_
      simp -implicitDefEqProofs only [ev, ↓reduceIte, Nat.reduceAdd, Nat.reduceEqDiff, Nat.reduceSub, Nat.reduceBEq, Nat.reduceLeDiff, reduceCtorEq]
      refine acall_ret pB ?_
      simp -implicitDefEqProofs only [ev, ↓reduceIte, Nat.reduceAdd, Nat.reduceEqDiff, Nat.reduceSub, Nat.reduceBEq, Nat.reduceLeDiff, reduceCtorEq, hc0]
      exact fin_same (.one (by simp)) ⟨rfl, rfl⟩
    | ok x1 =>
      cases hp2 : parseF s2 with
      | error ca =>
        obtain ⟨c, a⟩ := ca
        obtain ⟨hc, ha0, ha1⟩ := parse_err hp2
        have h3 : parse3 s2 = (emptyN, a, c) := by simp [parse3, hp2]
        have pB := ret_parse h3
        have hc0 : (c != 0) = true := by simp; omega
        have h3' : parse3 s1 = (x1, (s1.size : Int), 0) := by simp [parse3, hp1]
        have pA := ret_parse h3'
        cases x1 with
        | mk k c' a' b z m ks =>
        simp only [emptyN, encN_mk] at pA pB
        simp -implicitDefEqProofs only [ev, ↓reduceIte, Nat.reduceAdd, Nat.reduceEqDiff, Nat.reduceSub, Nat.reduceBEq, Nat.reduceLeDiff, reduceCtorEq]
        refine acall_ret h121 ?_
        simp -implicitDefEqProofs only [ev, ↓reduceIte, Nat.reduceAdd, Nat.reduceEqDiff, Nat.reduceSub, Nat.reduceBEq, Nat.reduceLeDiff, reduceCtorEq]
        refine acall_ret pA ?_
        simp -implicitDefEqProofs only [ev, ↓reduceIte, Nat.reduceAdd, Nat.reduceEqDiff, Nat.reduceSub, Nat.reduceBEq, Nat.reduceLeDiff, reduceCtorEq]
        refine acall_ret h122 ?_
        simp -implicitDefEqProofs only [ev, ↓reduceIte, Nat.reduceAdd, Nat.reduceEqDiff, Nat.reduceSub, Nat.reduceBEq, Nat.reduceLeDiff, reduceCtorEq]
        refine acall_ret pB ?_
        simp -implicitDefEqProofs only [ev, ↓reduceIte, Nat.reduceAdd, Nat.reduceEqDiff, Nat.reduceSub, Nat.reduceBEq, Nat.reduceLeDiff, reduceCtorEq, hz, hc0]
        exact fin_same (.one (by simp)) ⟨rfl, rfl⟩
      | ok x2 =>
        obtain ⟨hok1, ⟨g1, hn1, hg01, hg81⟩, hsz1, _⟩ := parse_ok hv1 hp1
        obtain ⟨hok2, ⟨g2, hn2, hg02, hg82⟩, hsz2, _⟩ := parse_ok hv2 hp2
        have h31 : parse3 s1 = (x1, (s1.size : Int), 0) := by simp [parse3, hp1]
        have h32 : parse3 s2 = (x2, (s2.size : Int), 0) := by simp [parse3, hp2]
        have pA := ret_parse h31
        have pB := ret_parse h32
        have p1 := f13_ok x1 (ok_put hok1) (by omega)
        have p2 := f13_ok x2 (ok_put hok2) (by omega)
        have hS := f16_ok x1 x2
        have hI := f16_ok x1 x1
        rw [same_self] at hI
        have key : Nd.same x1 x2 = ((putB x1).toList == (putB x2).toList) := by
          rw [Bool.eq_iff_iff, same_iff]
          constructor
          · rintro rfl; exact beq_self_eq_true _
          · intro h
            have h := eq_of_beq h
            rw [bytes_list, bytes_list] at h
            exact put_inj hok1 hok2 hn1 hn2 hg81 hg82 (ByteArray.ext (Array.ext' h))
        generalize putB x1 = t1 at p1 key
        generalize putB x2 = t2 at p2 key
        rw [key] at hS
        generalize hq : (t1.toList == t2.toList) = q at hS
        have qq : (q == q) = true := beq_self_eq_true _
        cases x1 with
        | mk k c' a' b z m ks =>
        cases x2 with
        | mk k2 c2 a2 b2 z2 m2 ks2 =>
        simp only [emptyN, encN_mk] at pA pB
        simp only [Nd.cells, List.map_cons, List.map_nil] at p1 p2 hS hI
        simp -implicitDefEqProofs only [ev, ↓reduceIte, Nat.reduceAdd, Nat.reduceEqDiff, Nat.reduceSub, Nat.reduceBEq, Nat.reduceLeDiff, reduceCtorEq]
        refine acall_ret h121 ?_
        simp -implicitDefEqProofs only [ev, ↓reduceIte, Nat.reduceAdd, Nat.reduceEqDiff, Nat.reduceSub, Nat.reduceBEq, Nat.reduceLeDiff, reduceCtorEq]
        refine acall_ret pA ?_
        simp -implicitDefEqProofs only [ev, ↓reduceIte, Nat.reduceAdd, Nat.reduceEqDiff, Nat.reduceSub, Nat.reduceBEq, Nat.reduceLeDiff, reduceCtorEq]
        refine acall_ret h122 ?_
        simp -implicitDefEqProofs only [ev, ↓reduceIte, Nat.reduceAdd, Nat.reduceEqDiff, Nat.reduceSub, Nat.reduceBEq, Nat.reduceLeDiff, reduceCtorEq]
        refine acall_ret pB ?_
        simp -implicitDefEqProofs only [ev, ↓reduceIte, Nat.reduceAdd, Nat.reduceEqDiff, Nat.reduceSub, Nat.reduceBEq, Nat.reduceLeDiff, reduceCtorEq, hz]
        refine dcall_ret hS ?_
        simp -implicitDefEqProofs only [ev, ↓reduceIte, Nat.reduceAdd, Nat.reduceEqDiff, Nat.reduceSub, Nat.reduceBEq, Nat.reduceLeDiff, reduceCtorEq]
        refine dcall_ret p1 ?_
        simp -implicitDefEqProofs only [ev, ↓reduceIte, Nat.reduceAdd, Nat.reduceEqDiff, Nat.reduceSub, Nat.reduceBEq, Nat.reduceLeDiff, reduceCtorEq]
        refine dcall_ret p2 ?_
        simp -implicitDefEqProofs only [ev, ↓reduceIte, Nat.reduceAdd, Nat.reduceEqDiff, Nat.reduceSub, Nat.reduceBEq, Nat.reduceLeDiff, reduceCtorEq, hq, qq]
        refine dcall_ret hI ?_
        simp -implicitDefEqProofs only [ev, ↓reduceIte, Nat.reduceAdd, Nat.reduceEqDiff, Nat.reduceSub, Nat.reduceBEq, Nat.reduceLeDiff, reduceCtorEq]
        exact fin_same (.one (by simp)) ⟨rfl, rfl⟩
  | false =>
    have hv2 := pat_nice l2 hl2
    have h122 := f12_ok l2 hl2
    have hz : ((0 : Int) != 0) = false := rfl
    generalize hsx : patB l1 = s1 at hv1 h121
    generalize hsy : patB l2 = s2 at hv2 h122
    cases hp1 : parseF s1 with
    | error ca =>
      obtain ⟨c, a⟩ := ca
      obtain ⟨hc, ha0, ha1⟩ := parse_err hp1
      have h3 : parse3 s1 = (emptyN, a, c) := by simp [parse3, hp1]
      have pA := ret_parse h3
      have hc0 : (c != 0) = true := by simp; omega
      have pB := f11_ok s2
      generalize (parse3 s2).1 = x2 at pB
      generalize (parse3 s2).2.1 = a2 at pB
      generalize (parse3 s2).2.2 = c2 at pB
      cases x2 with
      | mk k c' a' b z m ks =>
      simp only [emptyN, encN_mk] at pA pB
      simp -implicitDefEqProofs only [ev, ↓reduceIte, Nat.reduceAdd, Nat.reduceEqDiff, Nat.reduceSub, Nat.reduceBEq, Nat.reduceLeDiff, reduceCtorEq]
      refine acall_ret h121 ?_
      simp -implicitDefEqProofs only [ev, ↓reduceIte, Nat.reduceAdd, Nat.reduceEqDiff, Nat.reduceSub, Nat.reduceBEq, Nat.reduceLeDiff, reduceCtorEq]
      refine acall_ret pA ?_
      simp -implicitDefEqProofs only [ev, ↓reduceIte, Nat.reduceAdd, Nat.reduceEqDiff, Nat.reduceSub, Nat.reduceBEq, Nat.reduceLeDiff, reduceCtorEq]
      refine acall_ret h122 ?_
      simp -implicitDefEqProofs only [ev, ↓reduceIte, Nat.reduceAdd, Nat.reduceEqDiff, Nat.reduceSub, Nat.reduceBEq, Nat.reduceLeDiff, reduceCtorEq]
      refine acall_ret pB ?_
      simp -implicitDefEqProofs only [ev, ↓reduceIte, Nat.reduceAdd, Nat.reduceEqDiff, Nat.reduceSub, Nat.reduceBEq, Nat.reduceLeDiff, reduceCtorEq, hc0]
      exact fin_same (.one (by simp)) ⟨rfl, rfl⟩
    | ok x1 =>
      cases hp2 : parseF s2 with
      | error ca =>
        obtain ⟨c, a⟩ := ca
        obtain ⟨hc, ha0, ha1⟩ := parse_err hp2
        have h3 : parse3 s2 = (emptyN, a, c) := by simp [parse3, hp2]
        have pB := ret_parse h3
        have hc0 : (c != 0) = true := by simp; omega
        have h3' : parse3 s1 = (x1, (s1.size : Int), 0) := by simp [parse3, hp1]
        have pA := ret_parse h3'
        cases x1 with
        | mk k c' a' b z m ks =>
        simp only [emptyN, encN_mk] at pA pB
        simp -implicitDefEqProofs only [ev, ↓reduceIte, Nat.reduceAdd, Nat.reduceEqDiff, Nat.reduceSub, Nat.reduceBEq, Nat.reduceLeDiff, reduceCtorEq]
        refine acall_ret h121 ?_
        simp -implicitDefEqProofs only [ev, ↓reduceIte, Nat.reduceAdd, Nat.reduceEqDiff, Nat.reduceSub, Nat.reduceBEq, Nat.reduceLeDiff, reduceCtorEq]
        refine acall_ret pA ?_
        simp -implicitDefEqProofs only [ev, ↓reduceIte, Nat.reduceAdd, Nat.reduceEqDiff, Nat.reduceSub, Nat.reduceBEq, Nat.reduceLeDiff, reduceCtorEq]
        refine acall_ret h122 ?_
        simp -implicitDefEqProofs only [ev, ↓reduceIte, Nat.reduceAdd, Nat.reduceEqDiff, Nat.reduceSub, Nat.reduceBEq, Nat.reduceLeDiff, reduceCtorEq]
        refine acall_ret pB ?_
        simp -implicitDefEqProofs only [ev, ↓reduceIte, Nat.reduceAdd, Nat.reduceEqDiff, Nat.reduceSub, Nat.reduceBEq, Nat.reduceLeDiff, reduceCtorEq, hz, hc0]
        exact fin_same (.one (by simp)) ⟨rfl, rfl⟩
      | ok x2 =>
        obtain ⟨hok1, ⟨g1, hn1, hg01, hg81⟩, hsz1, _⟩ := parse_ok hv1 hp1
        obtain ⟨hok2, ⟨g2, hn2, hg02, hg82⟩, hsz2, _⟩ := parse_ok hv2 hp2
        have h31 : parse3 s1 = (x1, (s1.size : Int), 0) := by simp [parse3, hp1]
        have h32 : parse3 s2 = (x2, (s2.size : Int), 0) := by simp [parse3, hp2]
        have pA := ret_parse h31
        have pB := ret_parse h32
        have p1 := f13_ok x1 (ok_put hok1) (by omega)
        have p2 := f13_ok x2 (ok_put hok2) (by omega)
        have hS := f16_ok x1 x2
        have hI := f16_ok x1 x1
        rw [same_self] at hI
        have key : Nd.same x1 x2 = ((putB x1).toList == (putB x2).toList) := by
          rw [Bool.eq_iff_iff, same_iff]
          constructor
          · rintro rfl; exact beq_self_eq_true _
          · intro h
            have h := eq_of_beq h
            rw [bytes_list, bytes_list] at h
            exact put_inj hok1 hok2 hn1 hn2 hg81 hg82 (ByteArray.ext (Array.ext' h))
        generalize putB x1 = t1 at p1 key
        generalize putB x2 = t2 at p2 key
        rw [key] at hS
        generalize hq : (t1.toList == t2.toList) = q at hS
        have qq : (q == q) = true := beq_self_eq_true _
        cases x1 with
        | mk k c' a' b z m ks =>
        cases x2 with
        | mk k2 c2 a2 b2 z2 m2 ks2 =>
        simp only [emptyN, encN_mk] at pA pB
        simp only [Nd.cells, List.map_cons, List.map_nil] at p1 p2 hS hI
        simp -implicitDefEqProofs only [ev, ↓reduceIte, Nat.reduceAdd, Nat.reduceEqDiff, Nat.reduceSub, Nat.reduceBEq, Nat.reduceLeDiff, reduceCtorEq]
        refine acall_ret h121 ?_
        simp -implicitDefEqProofs only [ev, ↓reduceIte, Nat.reduceAdd, Nat.reduceEqDiff, Nat.reduceSub, Nat.reduceBEq, Nat.reduceLeDiff, reduceCtorEq]
        refine acall_ret pA ?_
        simp -implicitDefEqProofs only [ev, ↓reduceIte, Nat.reduceAdd, Nat.reduceEqDiff, Nat.reduceSub, Nat.reduceBEq, Nat.reduceLeDiff, reduceCtorEq]
        refine acall_ret h122 ?_
        simp -implicitDefEqProofs only [ev, ↓reduceIte, Nat.reduceAdd, Nat.reduceEqDiff, Nat.reduceSub, Nat.reduceBEq, Nat.reduceLeDiff, reduceCtorEq]
        refine acall_ret pB ?_
        simp -implicitDefEqProofs only [ev, ↓reduceIte, Nat.reduceAdd, Nat.reduceEqDiff, Nat.reduceSub, Nat.reduceBEq, Nat.reduceLeDiff, reduceCtorEq, hz]
        refine dcall_ret hS ?_
        simp -implicitDefEqProofs only [ev, ↓reduceIte, Nat.reduceAdd, Nat.reduceEqDiff, Nat.reduceSub, Nat.reduceBEq, Nat.reduceLeDiff, reduceCtorEq]
        refine dcall_ret p1 ?_
        simp -implicitDefEqProofs only [ev, ↓reduceIte, Nat.reduceAdd, Nat.reduceEqDiff, Nat.reduceSub, Nat.reduceBEq, Nat.reduceLeDiff, reduceCtorEq]
        refine dcall_ret p2 ?_
        simp -implicitDefEqProofs only [ev, ↓reduceIte, Nat.reduceAdd, Nat.reduceEqDiff, Nat.reduceSub, Nat.reduceBEq, Nat.reduceLeDiff, reduceCtorEq, hq, qq]
        refine dcall_ret hI ?_
        simp -implicitDefEqProofs only [ev, ↓reduceIte, Nat.reduceAdd, Nat.reduceEqDiff, Nat.reduceSub, Nat.reduceBEq, Nat.reduceLeDiff, reduceCtorEq]
        exact fin_same (.one (by simp)) ⟨rfl, rfl⟩
end Go.Av

