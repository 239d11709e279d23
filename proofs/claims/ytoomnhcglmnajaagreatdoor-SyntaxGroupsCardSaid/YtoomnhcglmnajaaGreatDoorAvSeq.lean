/-
  Sequences of pieces are put and parsed back; no condition.
-/
import Derived.Test.YtoomnhcglmnajaaGreatDoorAvThree
import Derived.Test.YtoomnhcglmnajaaGreatDoorAvNine
set_option linter.unusedVariables false
set_option linter.unusedSimpArgs false
namespace Go.Av
open Go.RowKit

/-! ### sequences of pieces -/
def seqN : List Nd → Nd
  | [] => emptyN
  | [x] => x
  | x :: y :: r => .mk 6 [] 0 0 false 0 (x :: y :: r)
structure Pc (y : Nd) : Prop where
  ok : Ok y
  k0 : y.kind ≠ 0
  k6 : y.kind ≠ 6
  k7 : y.kind ≠ 7
theorem Pc.piece {y : Nd} (h : Pc y) : pieceI y = putI y := by
  unfold pieceI
  rw [show ([7] : List Int).contains y.kind = false by simpa using h.k7, wrapI_no]
theorem pieces_eq : ∀ {l : List Nd}, (∀ y ∈ l, Pc y) → l.flatMap pieceI = l.flatMap putI
  | [], _ => rfl
  | x :: r, h => by
    rw [List.flatMap_cons, List.flatMap_cons, (h x (by simp)).piece, pieces_eq fun y hy => h y (by simp [hy])]
theorem seq_ok : ∀ {l : List Nd}, (∀ y ∈ l, Pc y) → Ok (seqN l)
  | [], _ => .empty
  | [x], h => (h x (by simp)).ok
  | x :: y :: r, h => .cat _ (by simp) (fun z hz => (h z hz).ok) (fun z hz => ⟨(h z hz).k0, (h z hz).k6⟩)
theorem seq_put : ∀ {l : List Nd}, (∀ y ∈ l, Pc y) → putI (seqN l) = l.flatMap putI
  | [], _ => put_empty
  | [x], h => by simp [seqN]
  | x :: y :: r, h => by
    show putI (.mk 6 [] 0 0 false 0 (x :: y :: r)) = _
    rw [put_cat, pieces_eq h]
theorem seq_num : ∀ (l : List Nd) (g : Int), num (seqN l) g = nums l g
  | [], g => by simp [seqN, emptyN, num, nums]
  | [x], g => by
    simp only [seqN, nums]
    cases num x g <;> rfl
  | x :: y :: r, g => by simp [seqN, num]
theorem seq_size : ∀ (l : List Nd), (seqN l).size = if l.length = 1 then ndSize l else 1 + ndSize l
  | [] => rfl
  | [x] => by simp [seqN, ndSize]
  | x :: y :: r => by simp [seqN, Nd.size]
theorem imax_le {a b : Int} (h : a ≤ b) : imax a b = b := by unfold imax; split <;> omega
theorem imax_ge {a b : Int} (h : b ≤ a) : imax a b = a := by unfold imax; split <;> omega
theorem le_ndGroups : ∀ (l : List Nd) (a : Int), a ≤ ndGroups a l
  | [], a => by simp [ndGroups]
  | x :: r, a => by
    simp only [ndGroups]
    have := le_ndGroups r (imax a x.groups)
    have : a ≤ imax a x.groups := by unfold imax; split <;> omega
    omega
theorem groups_nonneg : ∀ x : Nd, 0 ≤ x.groups
  | .mk k c a b z m ks => by
    simp only [Nd.groups]
    have := le_ndGroups ks (imax m 0)
    have : 0 ≤ imax m 0 := by unfold imax; split <;> omega
    omega
theorem seq_groups : ∀ (l : List Nd), (seqN l).groups = ndGroups 0 l
  | [] => rfl
  | [x] => by
    simp only [seqN, ndGroups]
    exact (imax_le (groups_nonneg x)).symm
  | x :: y :: r => by simp [seqN, Nd.groups, imax]
theorem ndGroups_append : ∀ (l m : List Nd) (a : Int), ndGroups a (l ++ m) = ndGroups (ndGroups a l) m
  | [], m, a => rfl
  | x :: r, m, a => by simp only [List.cons_append, ndGroups, ndGroups_append r m]
theorem Txt.same {s t : ByteArray} {l : List Int} (h : Txt s l) (h' : Txt t l) : s = t :=
  ByteArray.ext (Array.ext' (h.eq.trans h'.eq.symm))
theorem seq_parse {s : ByteArray} {l : List Nd} {g : Int} (h : ∀ y ∈ l, Pc y) (hn : nums l 0 = some g) (h8 : g ≤ 8) (ht : Txt s (l.flatMap putI)) (hs : s.size ≤ 200) :
    parse3 s = (seqN l, (s.size : Int), 0) ∧ putB (seqN l) = s := by
  have hp := seq_put h
  have hok := seq_ok h
  refine ⟨?_, (hp ▸ txt_put hok).same ht⟩
  have := parse_put hok (by rw [seq_num]; exact hn) h8 (by rw [hp]; exact ht.chars) hs
  simp [parse3, this]

/-! ### patterns of so many pieces -/
def repB (x : ByteArray) : Nat → ByteArray → ByteArray
  | 0, s => s
  | n + 1, s => repB x n (s ++ x)
def quantB : List ByteArray := [⟨#[99, 42]⟩, ⟨#[99, 43, 63]⟩, ⟨#[99, 123, 50, 125]⟩, ⟨#[99, 63, 63]⟩]
def quantsB : Nat → Nat → ByteArray → ByteArray
  | 0, _, s => s
  | n + 1, i, s => quantsB n (i + 1) (s ++ quantB.getD (i % 4) ⟨#[]⟩)
def sizesB (n m k : Nat) : ByteArray := quantsB k 0 (repB ⟨#[40, 98, 41]⟩ m (repB ⟨#[97]⟩ n ⟨#[]⟩))

theorem cls1_ok {r : Int} (h : okR r = true) : ClsOk [⟨r, r⟩] := by
  rw [okR_iff] at h
  refine ⟨by simp, by simp, ?_, ?_, ?_, ?_⟩
  · exact ⟨by simp, List.pairwise_singleton _ _⟩
  · intro q hq; simp at hq; subst hq; exact single_may (by omega) (by omega)
  · intro q hq; simp at hq; subst hq; rw [okR_iff]; exact h
  · intro q hq; simp at hq; subst hq; rw [okR_iff]; exact h
def runeN (r : Int) : Nd := oneN [⟨r, r⟩]
theorem rune_ok {r : Int} (h : okR r = true) : Ok (runeN r) := .one _ (cls1_ok h)
theorem rune_pc {r : Int} (h : okR r = true) : Pc (runeN r) := ⟨rune_ok h, by simp [runeN, oneN, Nd.kind], by simp [runeN, oneN, Nd.kind], by simp [runeN, oneN, Nd.kind]⟩
theorem group_pc {m : Int} {x : Nd} (h : Ok x) : Pc (groupN m x) := ⟨.group _ _ h, by simp [groupN, Nd.kind], by simp [groupN, Nd.kind], by simp [groupN, Nd.kind]⟩
theorem rep_pc {a b : Int} {z : Bool} {x : Nd} (h0 : 0 ≤ a) (h1 : a ≤ 20) (hb : b = -1 ∨ a ≤ b ∧ b ≤ 20) (h : Ok x) : Pc (repN a b z x) := ⟨.rep _ _ _ _ h0 h1 hb h, by simp [repN, Nd.kind], by simp [repN, Nd.kind], by simp [repN, Nd.kind]⟩
def quantN : Nat → Nd
  | 0 => repN 0 (-1) false (runeN 99)
  | 1 => repN 1 (-1) true (runeN 99)
  | 2 => repN 2 2 false (runeN 99)
  | _ => repN 0 1 true (runeN 99)
def quantsN : Nat → Nat → List Nd
  | 0, _ => []
  | n + 1, i => quantN (i % 4) :: quantsN n (i + 1)
def groupsN : Nat → Nat → List Nd
  | 0, _ => []
  | n + 1, i => groupN (i + 1 : Nat) (runeN 98) :: groupsN n (i + 1)
def sizesN (n m k : Nat) : List Nd := List.replicate n (runeN 97) ++ groupsN m 0 ++ quantsN k 0

theorem quant_pc (j : Nat) : Pc (quantN j) := by
  unfold quantN
  split <;> exact rep_pc (by decide) (by decide) (by decide) (rune_ok (by decide))
theorem quants_pc : ∀ n i, ∀ y ∈ quantsN n i, Pc y
  | 0, i, y, h => by cases h
  | n + 1, i, y, h => by
    rcases List.mem_cons.1 h with rfl | h
    · exact quant_pc _
    · exact quants_pc n (i + 1) y h
theorem groups_pc : ∀ n i, ∀ y ∈ groupsN n i, Pc y
  | 0, i, y, h => by cases h
  | n + 1, i, y, h => by
    rcases List.mem_cons.1 h with rfl | h
    · exact group_pc (rune_ok (by decide))
    · exact groups_pc n (i + 1) y h
theorem sizes_pc (n m k : Nat) : ∀ y ∈ sizesN n m k, Pc y := by
  intro y hy
  rcases List.mem_append.1 hy with hy | hy
  · rcases List.mem_append.1 hy with hy | hy
    · rw [(List.mem_replicate.1 hy).2]; exact rune_pc (by decide)
    · exact groups_pc _ _ y hy
  · exact quants_pc _ _ y hy

theorem txt_of {s : ByteArray} {l : List Int} (h : s.data.toList = l.flatMap unitL) (h' : ∀ r ∈ l, nB r = true) : Txt s l := ⟨fun r hr => (nB_iff (h' r hr)).unit, h⟩
theorem put_rune97 : putI (runeN 97) = [97] := by decide
theorem put_quants (j : Nat) : Txt (quantB.getD (j % 4) ⟨#[]⟩) (putI (quantN (j % 4))) := by
  have h : ∀ i : _root_.Fin 4, (quantB.getD i.val ⟨#[]⟩).data.toList = (putI (quantN i.val)).flatMap unitL ∧ ∀ r ∈ putI (quantN i.val), nB r = true := by decide
  exact txt_of (h ⟨j % 4, by omega⟩).1 (h ⟨j % 4, by omega⟩).2
theorem put_group98 (m : Int) : putI (groupN m (runeN 98)) = [40, 98, 41] := by rw [put_group]; decide
theorem txt_quants : ∀ n i {s : ByteArray} {l : List Int}, Txt s l → Txt (quantsB n i s) (l ++ (quantsN n i).flatMap putI)
  | 0, i, s, l, h => by simpa [quantsB, quantsN] using h
  | n + 1, i, s, l, h => by
    have := txt_quants n (i + 1) (h.append (put_quants i))
    simpa [quantsB, quantsN] using this
theorem txt_groups : ∀ n i {s : ByteArray} {l : List Int}, Txt s l → Txt (repB ⟨#[40, 98, 41]⟩ n s) (l ++ (groupsN n i).flatMap putI)
  | 0, i, s, l, h => by simpa [repB, groupsN] using h
  | n + 1, i, s, l, h => by
    have := txt_groups n (i + 1) (h.append (t := ⟨#[40, 98, 41]⟩) (m := [40, 98, 41]) (txt_of (by decide) (by decide)))
    simpa [repB, groupsN, put_group98] using this
theorem txt_reps : ∀ n {s : ByteArray} {l : List Int}, Txt s l → Txt (repB ⟨#[97]⟩ n s) (l ++ (List.replicate n (runeN 97)).flatMap putI)
  | 0, s, l, h => by simpa [repB] using h
  | n + 1, s, l, h => by
    have := txt_reps n (h.append (t := ⟨#[97]⟩) (m := [97]) (txt_of (by decide) (by decide)))
    simpa [repB, List.replicate_succ, put_rune97] using this
theorem txt_sizes (n m k : Nat) : Txt (sizesB n m k) ((sizesN n m k).flatMap putI) := by
  have h := txt_quants k 0 (txt_groups m 0 (txt_reps n .nil))
  simpa [sizesB, sizesN, List.flatMap_append] using h
theorem repB_size (x : ByteArray) : ∀ n s, (repB x n s).size = s.size + n * x.size
  | 0, s => by simp [repB]
  | n + 1, s => by rw [repB, repB_size x n, ByteArray.size_append, Nat.succ_mul]; omega
theorem quantB_size (j : Nat) : (quantB.getD (j % 4) ⟨#[]⟩).size ≤ 4 := by
  have h : ∀ i : _root_.Fin 4, (quantB.getD i.val ⟨#[]⟩).size ≤ 4 := by decide
  exact h ⟨j % 4, by omega⟩
theorem quantsB_size : ∀ n i s, (quantsB n i s).size ≤ s.size + 4 * n
  | 0, i, s => by simp [quantsB]
  | n + 1, i, s => by
    rw [quantsB]
    have := quantsB_size n (i + 1) (s ++ quantB.getD (i % 4) ⟨#[]⟩)
    have := quantB_size i
    rw [ByteArray.size_append] at *
    omega
theorem nums_quants : ∀ n i g, nums (quantsN n i) g = some g
  | 0, i, g => rfl
  | n + 1, i, g => by
    have h : num (quantN (i % 4)) g = some g := by unfold quantN; split <;> simp [repN, runeN, oneN, num, nums]
    simp [quantsN, nums, h, nums_quants n (i + 1) g]
theorem nums_groups : ∀ n i, nums (groupsN n i) (i : Nat) = some ((i + n : Nat) : Int)
  | 0, i => rfl
  | n + 1, i => by
    have h : num (groupN (i + 1 : Nat) (runeN 98)) (i : Nat) = some ((i + 1 : Nat) : Int) := by simp [groupN, num, nums, runeN, oneN]
    simp only [groupsN, nums, h, Option.bind_some, nums_groups n (i + 1)]
    congr 2; omega
theorem nums_reps : ∀ n g, nums (List.replicate n (runeN 97)) g = some g
  | 0, g => rfl
  | n + 1, g => by simp [List.replicate_succ, nums, runeN, oneN, num, nums_reps]; have := nums_reps n g; simpa [runeN, oneN] using this
theorem nums_sizes (n m k : Nat) : nums (sizesN n m k) 0 = some (m : Int) := by
  have h := nums_groups m 0
  simp only [Nat.zero_add] at h
  rw [sizesN, nums_append, nums_append, nums_reps]
  simp only [Option.bind_some]
  rw [show (0 : Int) = ((0 : Nat) : Int) from rfl, h]
  simp [nums_quants]
theorem size_quants : ∀ n i, ndSize (quantsN n i) = 2 * n
  | 0, i => rfl
  | n + 1, i => by
    have h : (quantN (i % 4)).size = 2 := by unfold quantN; split <;> rfl
    simp [quantsN, ndSize, h, size_quants n (i + 1)]; omega
theorem size_groups : ∀ n i, ndSize (groupsN n i) = 2 * n
  | 0, i => rfl
  | n + 1, i => by
    have h : (groupN (i + 1 : Nat) (runeN 98)).size = 2 := rfl
    simp only [groupsN, ndSize, h, size_groups n (i + 1)]; omega
theorem size_reps : ∀ n, ndSize (List.replicate n (runeN 97)) = n
  | 0 => rfl
  | n + 1 => by
    have h : (runeN 97).size = 1 := rfl
    simp only [List.replicate_succ, ndSize, h, size_reps n]; omega
theorem groups_quants : ∀ n i a, 0 ≤ a → ndGroups a (quantsN n i) = a
  | 0, i, a, _ => rfl
  | n + 1, i, a, h => by
    have e : (quantN (i % 4)).groups = 0 := by unfold quantN; split <;> rfl
    simp [quantsN, ndGroups, e, imax_ge h, groups_quants n (i + 1) a h]
theorem groups_groups : ∀ n i, ndGroups (i : Nat) (groupsN n i) = ((i + n : Nat) : Int)
  | 0, i => rfl
  | n + 1, i => by
    have e : (groupN (i + 1 : Nat) (runeN 98)).groups = ((i + 1 : Nat) : Int) := by
      show ndGroups (imax ((i + 1 : Nat) : Int) 0) [runeN 98] = _
      rw [imax_ge (by omega)]
      simp only [ndGroups]
      exact imax_ge (by show (0 : Int) ≤ _; omega)
    simp only [groupsN, ndGroups, e]
    rw [imax_le (by omega), groups_groups n (i + 1)]
    congr 1; omega
theorem groups_reps : ∀ n, ndGroups 0 (List.replicate n (runeN 97)) = 0
  | 0 => rfl
  | n + 1 => by
    have e : (runeN 97).groups = 0 := rfl
    simp only [List.replicate_succ, ndGroups, e]
    rw [imax_ge (by decide), groups_reps n]
theorem sizes_len (n m k : Nat) : n ≤ (sizesN n m k).length := by simp [sizesN]
theorem sizes_facts {n m k : Nat} (hn : 2 ≤ n) (hn2 : n < 12) (hm : m < 9) (hk : k < 10) :
    parse3 (sizesB n m k) = (seqN (sizesN n m k), ((sizesB n m k).size : Int), 0) ∧ putB (seqN (sizesN n m k)) = sizesB n m k ∧ Ok (seqN (sizesN n m k)) ∧
    (seqN (sizesN n m k)).size = 1 + n + 2 * m + 2 * k ∧ (seqN (sizesN n m k)).groups = (m : Int) := by
  have hs : (sizesB n m k).size ≤ 200 := by
    unfold sizesB
    have h1 := quantsB_size k 0 (repB ⟨#[40, 98, 41]⟩ m (repB ⟨#[97]⟩ n ⟨#[]⟩))
    rw [repB_size, repB_size] at h1
    have e1 : (⟨#[40, 98, 41]⟩ : ByteArray).size = 3 := rfl
    have e2 : (⟨#[97]⟩ : ByteArray).size = 1 := rfl
    have e3 : (⟨#[]⟩ : ByteArray).size = 0 := rfl
    rw [e1, e2, e3] at h1
    omega
  obtain ⟨h1, h2⟩ := seq_parse (sizes_pc n m k) (nums_sizes n m k) (by omega) (txt_sizes n m k) hs
  refine ⟨h1, h2, seq_ok (sizes_pc n m k), ?_, ?_⟩
  · rw [seq_size, if_neg (by have := sizes_len n m k; omega), sizesN, ndSize_append, ndSize_append, size_reps, size_groups, size_quants]; omega
  · rw [seq_groups, sizesN, ndGroups_append, ndGroups_append, groups_reps]
    have h := groups_groups m 0
    simp only [Nat.zero_add] at h
    rw [show (0 : Int) = ((0 : Nat) : Int) from rfl, h, groups_quants _ _ _ (by omega)]
end Go.Av

